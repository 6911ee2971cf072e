/-
  Plain words on runs; contract of the document's Runs.
-/
import Derived.Test.YtnijfkidgndbdaaSam2
namespace Go.Proofs.Ytnijfkidgndbdaa
open Go.RowKit
/-- a run: its colour, its first crossing, how many -/
structure Rn where
  c : Int
  f : Int
  m : Int
deriving DecidableEq
def rnCells (x : Rn) : List Value := [.int .i64 x.c, .int .i64 x.f, .int .i64 x.m]
def rnsCells (ws : List Rn) : List Value := ws.flatMap rnCells
theorem rnsCells_app (ws : List Rn) (x : Rn) : rnsCells (ws ++ [x]) = rnsCells ws ++ rnCells x := by simp [rnsCells]
theorem rnsCells_len (ws : List Rn) : (rnsCells ws).length = ws.length * 3 := by
  induction ws with
  | nil => rfl
  | cons x ws ih => simp only [rnsCells, List.flatMap_cons, List.length_append] at ih ⊢; rw [ih]; simp [rnCells]; omega
theorem rnsCells_last (ws : List Rn) (x : Rn) : (rnsCells (ws ++ [x]))[ws.length * 3 + 2]? = some (.int .i64 x.m) := by
  rw [rnsCells_app, List.getElem?_append_right (by rw [rnsCells_len]; omega), rnsCells_len, show ws.length * 3 + 2 - ws.length * 3 = 2 by omega]
  rfl
theorem rnsCells_bump (ws : List Rn) (x : Rn) (v : Int) : (rnsCells (ws ++ [x])).set (ws.length * 3 + 2) (.int .i64 v) = rnsCells (ws ++ [{ x with m := v }]) := by
  rw [rnsCells_app, rnsCells_app, List.set_append_right _ _ (by rw [rnsCells_len]; omega), rnsCells_len, show ws.length * 3 + 2 - ws.length * 3 = 2 by omega]
  rfl
theorem infoRn : (Try.prog.info? 43).map (fun i => (i.zero, i.size, i.bytes)) = some (some (.agg #[.int .i64 0, .int .i64 0, .int .i64 0]), 3, 24) := by kernel_rfl
theorem news_rn (w : World) (x : Rn) (t : TypeId) : ∀ j u, (rnCells x)[j]? = some u → (w.alloc (.cells #[.int .i64 x.c, .int .i64 x.f, .int .i64 x.m] t)).cell? ⟨w.heap.size, j, none⟩ = some u := fun j u hu => by
  match j, hu with
  | 0, hu => simp [rnCells] at hu; subst hu; go_simp
  | 1, hu => simp [rnCells] at hu; subst hu; go_simp
  | 2, hu => simp [rnCells] at hu; subst hu; go_simp
  | j + 3, hu => simp [rnCells] at hu
theorem one_rn (x : Rn) : ∀ u ∈ rnCells x, u.oneCell' = true := fun u hu => by
  simp only [rnCells, List.mem_cons, List.not_mem_nil, or_false] at hu
  rcases hu with rfl | rfl | rfl <;> rfl
def bump (L : List Rn) : List Rn := L.dropLast ++ (L.getLast?.toList.map fun r => { r with m := r.m + 1 })
theorem bump_app (L : List Rn) (r : Rn) : bump (L ++ [r]) = L ++ [{ r with m := r.m + 1 }] := by simp [bump]
theorem bump_len (L : List Rn) : (bump L).length = L.length := by
  rcases List.eq_nil_or_concat L with rfl | ⟨L', r, rfl⟩
  · rfl
  · rw [List.concat_eq_append, bump_app]; simp
/-- the runs of the first k colours -/
def runsTo (a : List Int) : Nat → List Rn
  | 0 => []
  | k + 1 => bump (if k = 0 ∨ a[k]? ≠ a[k - 1]? then runsTo a k ++ [⟨a.getD k 0, k, 0⟩] else runsTo a k)
theorem runsTo_len (a : List Int) : ∀ k, (runsTo a k).length ≤ k
  | 0 => Nat.le_refl _
  | k + 1 => by
    have ih := runsTo_len a k
    unfold runsTo
    rw [bump_len]
    split
    · rw [List.length_append]; simp; exact ih
    · omega
theorem runsTo_new {a : List Int} {k : Nat} {x : Int} (hx : a[k]? = some x) (h : k = 0 ∨ a[k]? ≠ a[k - 1]?) : runsTo a (k + 1) = runsTo a k ++ [⟨x, k, 1⟩] := by
  show bump (if k = 0 ∨ a[k]? ≠ a[k - 1]? then runsTo a k ++ [⟨a.getD k 0, k, 0⟩] else runsTo a k) = _
  rw [if_pos h, bump_app, List.getD_eq_getElem?_getD, hx]; rfl
theorem runsTo_old {a : List Int} {k : Nat} (h : ¬ (k = 0 ∨ a[k]? ≠ a[k - 1]?)) {L : List Rn} {r : Rn} (hL : runsTo a k = L ++ [r]) : runsTo a (k + 1) = L ++ [{ r with m := r.m + 1 }] := by
  show bump (if k = 0 ∨ a[k]? ≠ a[k - 1]? then runsTo a k ++ [⟨a.getD k 0, k, 0⟩] else runsTo a k) = _
  rw [if_neg h, hL, bump_app]
theorem runsTo_some {a : List Int} : ∀ {k : Nat}, 0 < k → ∃ L r, runsTo a k = L ++ [r]
  | 0, h => absurd h (by omega)
  | k + 1, _ => by
    show ∃ L r, bump (if k = 0 ∨ a[k]? ≠ a[k - 1]? then runsTo a k ++ [⟨a.getD k 0, k, 0⟩] else runsTo a k) = L ++ [r]
    split
    · exact ⟨_, _, bump_app _ _⟩
    · rename_i h
      obtain ⟨L, r, hL⟩ := runsTo_some (a := a) (k := k) (by omega)
      rw [hL]
      exact ⟨_, _, bump_app _ _⟩
theorem runsTo_many {a : List Int} : ∀ {k : Nat} {L : List Rn} {r : Rn}, runsTo a k = L ++ [r] → 0 ≤ r.m ∧ r.m ≤ k
  | 0, L, r, h => by simp [runsTo] at h
  | k + 1, L, r, h => by
    by_cases hc : k = 0 ∨ a[k]? ≠ a[k - 1]?
    · have e : runsTo a (k + 1) = runsTo a k ++ [{ (⟨a.getD k 0, k, 0⟩ : Rn) with m := 0 + 1 }] := by
        show bump (if k = 0 ∨ a[k]? ≠ a[k - 1]? then runsTo a k ++ [⟨a.getD k 0, k, 0⟩] else runsTo a k) = _
        rw [if_pos hc, bump_app]
      rw [e] at h
      obtain ⟨_, h2⟩ := List.append_inj' h rfl
      simp at h2
      rw [← h2]
      exact ⟨by simp, by simp; omega⟩
    · obtain ⟨L', r', hL⟩ := runsTo_some (a := a) (k := k) (by omega)
      have ih := runsTo_many hL
      rw [runsTo_old hc hL] at h
      obtain ⟨_, h2⟩ := List.append_inj' h rfl
      simp at h2
      rw [← h2]
      exact ⟨by simp; omega, by simp; omega⟩
/-- an ending: a row of runs, and an error -/
def RetRE (xs : List Rn) (err : Int) (w : World) (e : Ending) (w' : World) : Prop := ∃ A n c, e = .returned (.tuple #[.slice A n c, .int .i64 err]) ∧ w'.ownsRow w.heap.size 43 3 (.slice A n c) n (rnsCells xs) ∧ xs.length = n ∧ Below w.heap.size w w'
def runsR (t : Int) (xs ps : List Q4) (ds : List Int) : List Rn := if chkE t xs ps ds = 0 then runsTo (overL xs ds) xs.length else []
set_option maxRecDepth 100000 in
set_option maxHeartbeats 4000000 in
theorem runs28 (t : Int) (A B D : Option Addr) (n c m d k e : Nat) (xs ps : List Q4) (ds : List Int) (w : World) (hn : n ≤ 9223372036854775807) (hm : m ≤ 9223372036854775807) (hk : k ≤ 9223372036854775807) (hx : RdQ w w.heap.size A xs) (hp : RdQ w w.heap.size B ps) (hd : RdI w w.heap.size D ds)
    (hl : xs.length = n) (hl' : ps.length = m) (hlk : ds.length = k) (ht0 : -9223372036854775808 ≤ t) :
    Calls Try.prog 28 #[vCloth t A n c B m d, .slice D k e] w (RetRE (runsR t xs ps ds) (chkE t xs ps ds) w) := by
  have C1 := Lib.hid (fun (W : World) (hb : Below w.heap.size w W) => seen15 t A B D n c m d k e xs ps ds W hn hm hk (hx.up hb) (hp.up hb) (hd.up hb) hl hl' hlk ht0)
  clear hx hp hd
  have K0 : Has (w.alloc (.cells #[.int .i64 t, .slice A n c, .slice B m d] 25)) w.heap.size 25 [.int .i64 t, .slice A n c, .slice B m d] := Has.new rfl
  by_cases hE : chkE t xs ps ds = 0
  · have hn2 : n ≤ 20000 := by have := (ckE_ok (chkE_ok hE).1).2.2.1; rw [hl] at this; exact this
    have hR1 : seenR t xs ps ds = overL xs ds := by unfold seenR; rw [if_pos hE]
    have hR3 : runsR t xs ps ds = runsTo (overL xs ds) n := by unfold runsR; rw [if_pos hE, hl]
    rw [hR1, hE] at C1
    rw [hR3, hE]
    have LA : Hid ((overL xs ds).length = n) := by show _ = n; unfold overL; rw [List.length_map, hl]
    clear hE hR1 hR3 hl
    generalize overL xs ds = la at *
    go_enter Try.func28, Try.ntmps28
    go_wp2_with fail
    refine (C1.out _ (by go_grown)).mono ?_
    rintro e w1 ⟨A1, n1, c1, rfl, r1, l1, k1, k1', hb1⟩
    obtain rfl : n1 = n := by rw [← l1]; exact LA.out
    have B1 := bvia (show Below w.heap.size w _ by go_grown) hb1
    have R1 := Lib.hid r1; clear r1
    clear K0 hb1 C1 l1
    go_wp2
    go_loopw [8, 9] (fun v i wr => ∃ (j l : Nat) (A' : Option Addr) (c' : Nat), j ≤ n1 ∧ l ≤ j ∧ i = .int .i64 (j : Int) ∧ v = .slice A' l c' ∧ (runsTo la j).length = l ∧ wr.ownsRow w1.heap.size 43 3 v l (rnsCells (runsTo la j)) ∧ Below w1.heap.size w1 wr) (fun _ i _ => n1 - (intOf i).toNat)
    case atStart => exact ⟨0, 0, none, 0, Nat.zero_le _, Nat.le_refl _, rfl, rfl, rfl, World.ownsRow_nil _ _ _ _, Below.refl _ _⟩
    case round =>
      obtain ⟨j, l, A', c', hj, hlj, rfl, rfl, hll, hown, hb⟩ := hrel
      obtain ⟨wo, rfl⟩ : ∃ wo : World, wo = wr := ⟨_, rfl⟩
      have HO' := Lib.hid hown; clear hown
      have HLL := Lib.hid hll; clear hll
      have hz := hb.size
      by_cases hlt : j < n1
      · obtain ⟨x, hx⟩ := get_of_lt (l := la) (k := j) (by rw [LA.out]; exact hlt)
        obtain ⟨ba, oa, rfl, hba, c0⟩ := R1.out _ x hx
        have e0 := (hb.cell (p := ⟨ba, oa + j, none⟩) hba).trans c0
        have z0 : ba < wo.heap.size := by omega
        have HX := Lib.hid hx; clear hx c0
        have jn : (j : Int) < (n1 : Int) := by omega
        by_cases hj0 : j = 0
        · subst hj0
          have HS := Lib.hid (runsTo_new HX.out (.inl rfl))
          rw [Nat.add_zero] at e0
          go_wp2
          have hxc := fun (x : Ext wo) => x.cell
          refine wp_region_ext (by kernel_rfl) (by kernel_rfl) ?_
          repeat (go_big_quiet_step (fail))
          refine wpQuiet_nil ?_
          intro w6 hw'
          have hb6 := ext_below hw'; clear hw' hxc
          have e6 := (hb6.cell (p := ⟨ba, oa, none⟩) z0).trans e0
          have HO6 := Lib.hid (own_below HO'.out hb6)
          have B6 := hb.trans (hb6.mono hz)
          have hz6 := B6.size
          clear HO' hb6 e0
          go_wp2_with (at_builtin; refine wpList_app rfl (.tmp 39) (.tmp 46) _ rfl w1.heap.size 43 (.agg #[.int .i64 0, .int .i64 0, .int .i64 0]) 3 24 Try.underlying39 infoRn rfl (by omega) (by omega) _ _ _ rfl (HO6.out.alloc _) w6.heap.size (rnCells ⟨x, (0 : Nat), 0⟩) rfl rfl (news_rn _ ⟨x, ((0 : Nat) : Int), 0⟩ _) (one_rn _) (by omega) (by simp; omega) ?_)
          intro ga cap1 w7 hg1 hown1 hgrow1 hor1
          have hown2 : w7.ownsRow w1.heap.size 43 3 (.slice (some ⟨ga, 0, none⟩) (l + 1) cap1) (l + 1) (rnsCells (runsTo la 0 ++ [⟨x, ((0 : Nat) : Int), 0⟩])) := by rw [rnsCells_app]; exact hown1
          have g0 : w7.cell? ⟨ga, l * 3 + 2, none⟩ = some (.int .i64 0) := by
            rw [hown2.cellAt _ (by omega)]
            have := rnsCells_last (runsTo la 0) ⟨x, ((0 : Nat) : Int), 0⟩
            rwa [HLL.out] at this
          have f0 := hown2.frozenAt (l * 3 + 2)
          have B7 := (B6.alloc hz6 _).grown hgrow1 (by simp; omega) (fun kk hk => (HO6.out.lt kk hk).1)
          have i1 : IntKind.i64.wrap (((l + 1 : Nat) : Int) - 1) = (l : Int) := by rw [show ((l + 1 : Nat) : Int) - 1 = (l : Int) by omega]; exact IntWalk.i64_in _ (by omega)
          have i2 : ((l : Nat) : Int).toNat = l := by simp
          have i3 : (l : Int) < ((l + 1 : Nat) : Int) := by omega
          have i4 : (0 : Int) ≤ (l : Int) := by omega
          have HST := Lib.hid (hown2.stored (l * 3 + 2) (.int .i64 1)).1
          clear hown1 hown2 hgrow1 HO6
          go_wp2
          go_roundw
          case rel =>
            have h := HST.out
            have e := rnsCells_bump (runsTo la 0) ⟨x, ((0 : Nat) : Int), 0⟩ 1
            rw [HLL.out] at e
            rw [e] at h
            have e2 : runsTo la 0 ++ [{ (⟨x, ((0 : Nat) : Int), 0⟩ : Rn) with m := 1 }] = runsTo la (0 + 1) := HS.out.symm
            rw [e2] at h
            exact ⟨0 + 1, l + 1, some ⟨ga, 0, none⟩, cap1, by omega, by omega, by go_num, rfl, by rw [HS.out, List.length_append, HLL.out]; rfl, h, B7.setCell (by simpa using hg1) _⟩
          case measure => first | (simp [intOf]; done) | (simp [intOf]; omega)
        · obtain ⟨p, rfl⟩ : ∃ p, j = p + 1 := ⟨j - 1, by omega⟩
          have hj1 : (((p + 1 : Nat) : Int) == 0) = false := by simp; omega
          have hj2 : ((p : Int) + 1 == 0) = false := by simp; omega
          have ip5 : IntKind.i64.wrap (p : Int) = (p : Int) := IntWalk.i64_in _ (by omega)
          have ip6 : (p : Int) + 1 < (n1 : Int) := by omega
          obtain ⟨y, hy⟩ := get_of_lt (l := la) (k := p) (by rw [LA.out]; omega)
          obtain ⟨ba', oa', e3, _, c1⟩ := R1.out _ y hy
          injection e3 with e3; injection e3 with e4 e5
          subst e4 e5
          have y0 := (hb.cell (p := ⟨ba, oa + p, none⟩) hba).trans c1
          have ip : IntKind.i64.wrap (((p + 1 : Nat) : Int) - 1) = (p : Int) := by rw [show ((p + 1 : Nat) : Int) - 1 = (p : Int) by omega]; exact IntWalk.i64_in _ (by omega)
          have ip2 : (p : Int) < (n1 : Int) := by omega
          have ip3 : ((p : Nat) : Int).toNat = p := by simp
          have ip4 : (0 : Int) ≤ (p : Int) := by omega
          have HY := Lib.hid hy; clear hy c1 hj0
          by_cases he : x = y
          · have hed : (x != y) = false := by simpa using he
            have hnew : ¬ (p + 1 = 0 ∨ la[p + 1]? ≠ la[p + 1 - 1]?) := by rw [Nat.add_sub_cancel, HX.out, HY.out, he]; simp
            obtain ⟨L, r, hL⟩ := runsTo_some (a := la) (k := p + 1) (by omega)
            have hS := runsTo_old hnew hL
            obtain ⟨hm0, hm1⟩ := runsTo_many hL
            have hLl : L.length + 1 = l := by have := HLL.out; rw [hL, List.length_append] at this; exact this
            subst hLl
            have hu := rnsCells_last L r
            rw [hL] at HO'
            obtain ⟨ga, rfl, hg1, hgl, c7⟩ := own_at HO'.out hu
            have HS := Lib.hid hS; have HL' := Lib.hid hL
            clear hS hL hu hnew
            have hm2 : IntKind.i64.wrap (r.m + 1) = r.m + 1 := IntWalk.i64_in _ (by omega)
            go_wp2
            have hxc := fun (x : Ext wo) => x.cell
            refine wp_region_ext (by kernel_rfl) (by kernel_rfl) ?_
            repeat (go_big_quiet_step (fail))
            refine wpQuiet_nil ?_
            intro w6 hw'
            have hb6 := ext_below hw'; clear hw' hxc
            have e6 := (hb6.cell (p := ⟨ba, oa + (p + 1), none⟩) z0).trans e0
            have HO6 := Lib.hid (own_below HO'.out hb6)
            have B6 := hb.trans (hb6.mono hz)
            have hz6 := B6.size
            have hb6' := hb6
            clear HO' hb6 e0
            have g0 := (hb6'.cell (p := ⟨ga, L.length * 3 + 2, none⟩) hgl).trans c7
            have f0 := HO6.out.frozenAt (L.length * 3 + 2)
            have i1 : IntKind.i64.wrap (((L.length + 1 : Nat) : Int) - 1) = (L.length : Int) := by rw [show ((L.length + 1 : Nat) : Int) - 1 = (L.length : Int) by omega]; exact IntWalk.i64_in _ (by omega)
            have i2 : ((L.length : Nat) : Int).toNat = L.length := by simp
            have i3 : (L.length : Int) < ((L.length + 1 : Nat) : Int) := by omega
            have i4 : (0 : Int) ≤ (L.length : Int) := by omega
            have HST := Lib.hid (HO6.out.stored (L.length * 3 + 2) (.int .i64 (r.m + 1))).1
            clear HO6 hb6' c7
            go_wp2
            go_roundw
            case rel =>
              have h := HST.out
              rw [rnsCells_bump L r (r.m + 1)] at h
              refine ⟨p + 1 + 1, L.length + 1, some ⟨ga, 0, none⟩, c', by omega, by omega, by go_num, rfl, ?_, ?_, B6.setCell (by simpa using hg1) _⟩
              · rw [HS.out, List.length_append]; rfl
              · rw [HS.out]; exact h
            case measure => first | (simp [intOf]; done) | (simp [intOf]; omega)
          · have hed : (x != y) = true := by simpa using he
            have HS := Lib.hid (runsTo_new HX.out (.inr (by rw [Nat.add_sub_cancel, HX.out, HY.out]; intro h; exact he (by injection h))))
            go_wp2
            have hxc := fun (x : Ext wo) => x.cell
            refine wp_region_ext (by kernel_rfl) (by kernel_rfl) ?_
            repeat (go_big_quiet_step (fail))
            refine wpQuiet_nil ?_
            intro w6 hw'
            have hb6 := ext_below hw'; clear hw' hxc
            have e6 := (hb6.cell (p := ⟨ba, oa + (p + 1), none⟩) z0).trans e0
            have HO6 := Lib.hid (own_below HO'.out hb6)
            have B6 := hb.trans (hb6.mono hz)
            have hz6 := B6.size
            clear HO' hb6 e0
            go_wp2_with (at_builtin; refine wpList_app rfl (.tmp 39) (.tmp 46) _ rfl w1.heap.size 43 (.agg #[.int .i64 0, .int .i64 0, .int .i64 0]) 3 24 Try.underlying39 infoRn rfl (by omega) (by omega) _ _ _ rfl (HO6.out.alloc _) w6.heap.size (rnCells ⟨x, (p + 1 : Nat), 0⟩) rfl rfl (news_rn _ ⟨x, ((p + 1 : Nat) : Int), 0⟩ _) (one_rn _) (by omega) (by simp; omega) ?_)
            intro ga cap1 w7 hg1 hown1 hgrow1 hor1
            have hown2 : w7.ownsRow w1.heap.size 43 3 (.slice (some ⟨ga, 0, none⟩) (l + 1) cap1) (l + 1) (rnsCells (runsTo la (p + 1) ++ [⟨x, ((p + 1 : Nat) : Int), 0⟩])) := by rw [rnsCells_app]; exact hown1
            have g0 : w7.cell? ⟨ga, l * 3 + 2, none⟩ = some (.int .i64 0) := by
              rw [hown2.cellAt _ (by omega)]
              have := rnsCells_last (runsTo la (p + 1)) ⟨x, ((p + 1 : Nat) : Int), 0⟩
              rwa [HLL.out] at this
            have f0 := hown2.frozenAt (l * 3 + 2)
            have B7 := (B6.alloc hz6 _).grown hgrow1 (by simp; omega) (fun kk hk => (HO6.out.lt kk hk).1)
            have i1 : IntKind.i64.wrap (((l + 1 : Nat) : Int) - 1) = (l : Int) := by rw [show ((l + 1 : Nat) : Int) - 1 = (l : Int) by omega]; exact IntWalk.i64_in _ (by omega)
            have i2 : ((l : Nat) : Int).toNat = l := by simp
            have i3 : (l : Int) < ((l + 1 : Nat) : Int) := by omega
            have i4 : (0 : Int) ≤ (l : Int) := by omega
            have HST := Lib.hid (hown2.stored (l * 3 + 2) (.int .i64 1)).1
            clear hown1 hown2 hgrow1 HO6
            go_wp2
            go_roundw
            case rel =>
              have h := HST.out
              have e := rnsCells_bump (runsTo la (p + 1)) ⟨x, ((p + 1 : Nat) : Int), 0⟩ 1
              rw [HLL.out] at e
              rw [e] at h
              have e2 : runsTo la (p + 1) ++ [{ (⟨x, ((p + 1 : Nat) : Int), 0⟩ : Rn) with m := 1 }] = runsTo la (p + 1 + 1) := HS.out.symm
              rw [e2] at h
              exact ⟨p + 1 + 1, l + 1, some ⟨ga, 0, none⟩, cap1, by omega, by omega, by go_num, rfl, by rw [HS.out, List.length_append, HLL.out]; rfl, h, B7.setCell (by simpa using hg1) _⟩
            case measure => first | (simp [intOf]; done) | (simp [intOf]; omega)
      · obtain rfl : j = n1 := by omega
        go_wp2
        go_ret2
        exact ⟨A', l, c', rfl, own_base HO'.out B1.size, HLL.out, bvia B1 hb⟩
  · have hR1 : seenR t xs ps ds = [] := by unfold seenR; rw [if_neg hE]
    have hR3 : runsR t xs ps ds = [] := by unfold runsR; rw [if_neg hE]
    rw [hR1] at C1
    rw [hR3]
    generalize chkE t xs ps ds = r at *
    have hr : (r != 0) = true := by simpa using hE
    clear hE hR1 hR3
    go_enter Try.func28, Try.ntmps28
    go_wp2_with fail
    refine (C1.out _ (by go_grown)).mono ?_
    rintro e w1 ⟨A1, n1, c1, rfl, r1, l1, k1, k1', hb1⟩
    have B1 := bvia (show Below w.heap.size w _ by go_grown) hb1
    clear K0 hb1 r1
    go_wp2
    go_ret2
    exact ⟨none, 0, 0, rfl, World.ownsRow_nil _ _ _ _, rfl, B1⟩
end Go.Proofs.Ytnijfkidgndbdaa
