/-
  Contracts: slices.Grow of a nil slice, slices.Concat at instructions; compile.Reaches.
-/
import Derived.Test.YtnjenggijmbhcaaVK23
import Derived.Test.YtnjenggijmbhcaaVR4
import Derived.Lib.AppendZerosOnto
namespace Go.Proofs.Ytnjenggijmbhcaa
open Go.RowKit
theorem infoSt : (Try.prog.info? 64).map (fun i => (i.zero, i.size, i.bytes)) = some (some (.agg #[.int .i64 0, .int .i64 0, .string ⟨#[]⟩]), 3, 32) := by kernel_rfl
theorem run_new_heap (w : World) (Z : Array Value) (t : TypeId) : ((w.alloc (.cells Z t)).drew).heap[w.heap.size]? = some (.cells Z t (0, 0)) := Has.new (w := w) (arr := Z) (t := t) (cs := Z.toList) (by simp) |>.trans (by simp)
set_option maxRecDepth 100000 in
set_option maxHeartbeats 1000000 in
theorem growSt (n : Nat) (h0 : 0 < n) (hn : n ≤ 100000) (w : World) : Calls Try.prog 89 #[.slice none 0 0, .int .i64 (n : Int)] w fun e w' => ∃ c, e = .returned (.slice (some ⟨w.heap.size, 0, none⟩) 0 c) ∧ w'.ownsRow w.heap.size 64 3 (.slice (some ⟨w.heap.size, 0, none⟩) 0 c) 0 [] ∧ Below w.heap.size w w' := by
  obtain ⟨i, hi, hz, hs, hb⟩ := info_parts infoSt
  have hold : (Builtin.firstCells i.size 0 (.slice none 0 0)).run Try.prog w.drew = .ok ([] : List Value).toArray w.drew := run_firstCells_none w.drew i.size 0 0 0
  have hrz := fun ty => Lib.run_append_grow_zeros (P := Try.prog) w 47 3 ty 64 i (.agg #[.int .i64 0, .int .i64 0, .string ⟨#[]⟩]) .i64 .i64 Try.underlying47 Try.underlying3 hi hz none 0 0 [] hold n h0 (by omega) (by omega) (by omega) (by rw [hb]; omega) (growslice_fits (by omega) (by rw [hb]; omega))
  have hG := grownCap_le_maxLen w (0 + n) 0 64 (by unfold maxLen; omega)
  have hG2 := grownCap_ge w (0 + n) 0 64
  have hG63 : grownCap w (0 + n) 0 64 ≤ 9223372036854775807 := by unfold maxLen at hG; omega
  generalize grownCap w (0 + n) 0 64 = G at *
  have HSZ : Hid ((([] : List Value).toArray ++ Builtin.zeroCells (Value.agg #[.int .i64 0, .int .i64 0, .string ⟨#[]⟩]).cells n ++ Builtin.zeroCells (Value.agg #[.int .i64 0, .int .i64 0, .string ⟨#[]⟩]).cells (G - (0 + n))).size = G * 3) := by
    show _ = _
    have e : ∀ m, (Builtin.zeroCells (Value.agg #[.int .i64 0, .int .i64 0, .string ⟨#[]⟩]).cells m).size = m * 3 := fun m => by
      rw [size_zeroCells]; rfl
    rw [Array.size_append, Array.size_append, e, e]
    simp; omega
  generalize hZ : (([] : List Value).toArray ++ Builtin.zeroCells (Value.agg #[.int .i64 0, .int .i64 0, .string ⟨#[]⟩]).cells n ++ Builtin.zeroCells (Value.agg #[.int .i64 0, .int .i64 0, .string ⟨#[]⟩]).cells (G - (0 + n))) = Z at *
  have w1 : IntKind.i64.wrap ((n : Int) - 0) = (n : Int) := by rw [IntWalk.i64_in _ (by omega)]; omega
  have h1 : ¬ ((n : Int) < 0) := by omega
  have h4 : (0 : Int) < (n : Int) := by omega
  have hle : (0 : Int) ≤ (G : Int) := by omega
  have HG := Lib.hid hG
  have HG2 := Lib.hid hG2
  clear hold hG hG2 hZ hi hz hs hb
  go_enter Try.func89, Try.ntmps89
  go_wp2_with (at_builtin; refine Lib.wpList_append_run _ rfl _ _ _ _ rfl _ _ rfl rfl _ _ (hrz _) ?_)
  all_goals go_ret
  all_goals exact ⟨G, rfl, ⟨rfl, .inr ⟨w.heap.size, G, Z, rfl, Nat.le_refl _, (run_new_heap w _ _), Nat.zero_le _, HG.out, HSZ.out, by simp⟩⟩, by go_grown⟩
theorem wpList_appSt {w : World} {ops : Array Oper} {rest : List Oper} {o : Oper} {a : Act} {Q : Exit → Act → World → Prop} (hgd : o.guard = none) (s x : Operand)
    (ho : o.op = .call { callee := .builtin .append, args := #[s, x], argTypes := #[47, 47] })
    (base : Nat) (v : Value) (n : Nat) (xs : List Wk) (hs : a.eval s = v) (hown : w.ownsRow base 64 3 v n (wksCells xs))
    (A : Option Addr) (m c : Nat) (ds : List Wk) (hx : a.eval x = .slice A m c) (hr : RdW w w.heap.size A ds) (hl : ds.length = m)
    (hn : n + m ≤ 1000000000) (hbase : base ≤ w.heap.size)
    (h : ∀ A' c' w', w'.ownsRow base 64 3 (.slice A' (n + m) c') (n + m) (wksCells (xs ++ ds)) → w.grownBy w' v.ownBlock → wpList Try.prog ops Q rest (a.put o.dst (.slice A' (n + m) c')) w') :
    wpList Try.prog ops Q (o :: rest) a w := by
  have happ : wksCells xs ++ wksCells ds = wksCells (xs ++ ds) := by simp [wksCells]
  refine wpList_plain hgd fun K hK => ?_
  cases A with
  | none =>
    have hw0 : ds = [] := by
      cases ds with
      | nil => rfl
      | cons y ws => obtain ⟨b, o', e, _⟩ := hr 0 y rfl; cases e
    subst hw0
    obtain rfl : 0 = m := hl
    obtain ⟨B, d, rfl⟩ := own_form hown
    obtain ⟨i, hi, hz, hsize, hb⟩ := info_parts infoSt
    have hcc := own_caps hown
    have hrun := run_app0 (P := Try.prog) w 47 o.type 64 i Try.underlying47 hi B n d c hcc.1
    unfold Oper.wp execOp
    simp only [ho, resolve, invoke, builtin, Sem.run_bind, Sem.run_pure, Result.andThen_ok, List.map_toArray, List.map_cons, List.map_nil, hs, hx, hrun]
    exact hK _ _ (h B d w (by rw [List.append_nil]; exact hown) ⟨rfl, rfl, rfl, Nat.le_refl _, fun _ _ _ => rfl⟩)
  | some ad =>
    refine wp_appN s x 47 ho base 64 (.agg #[.int .i64 0, .int .i64 0, .string ⟨#[]⟩]) 3 32 Try.underlying47 infoSt rfl (by omega) (by omega) v n (wksCells xs) hs hown ad m c (wksCells ds) hx (by rw [wksCells_len, hl]) ?_ (one_wks ds) hn hbase ?_
    · cases ds with
      | nil => intro j u hu; simp [wksCells] at hu
      | cons y ws =>
        obtain ⟨b, o', e, _⟩ := hr 0 y rfl
        injection e with e
        subst e
        exact rdW_wks hr
    · intro v' w' hown' hgrow' _ _
      obtain ⟨A', c', rfl⟩ := own_form hown'
      exact hK _ _ (h A' c' w' (by rw [← happ]; exact hown') hgrow')
/-- a slice of lists of steps -/
def RdWs (w : World) (g : Nat) (rs : List (List Wk)) : Prop := ∀ (k : Nat) (x : List Wk), rs[k]? = some x → ∃ A c, w.cell? ⟨g, k, none⟩ = some (.slice A x.length c) ∧ RdW w w.heap.size A x
theorem flat_take {rs : List (List Wk)} {k : Nat} {x : List Wk} (h : rs[k]? = some x) : (rs.take (k + 1)).flatten = (rs.take k).flatten ++ x := by
  rw [List.take_add_one, h, Option.toList_some, List.flatten_append]; simp
theorem flat_le {rs : List (List Wk)} (k : Nat) : (rs.take k).flatten.length ≤ rs.flatten.length := by
  have h : rs.flatten = (rs.take k).flatten ++ (rs.drop k).flatten := by rw [← List.flatten_append, List.take_append_drop]
  rw [h, List.length_append]; omega
def RetSt (l : List Wk) (w : World) (e : Ending) (w' : World) : Prop := ∃ A n c, e = .returned (.slice A n c) ∧ w'.ownsRow w.heap.size 64 3 (.slice A n c) n (wksCells l) ∧ l.length = n ∧ Below w.heap.size w w'
set_option maxRecDepth 100000 in
set_option maxHeartbeats 2000000 in
theorem concatSt (g m cp : Nat) (rs : List (List Wk)) (w : World) (hg : g < w.heap.size) (hm : m ≤ 1000) (hrs : rs.length = m) (hr : RdWs w g rs) (h0 : 0 < rs.flatten.length) (hn : rs.flatten.length ≤ 100000) :
    Calls Try.prog 57 #[.slice (some ⟨g, 0, none⟩) m cp] w (RetSt rs.flatten w) := by
  have HR := Lib.hid hr
  have HL := Lib.hid hrs
  have H0 := Lib.hid h0
  have HN := Lib.hid hn
  have HT := Lib.hid (fun k => flat_le (rs := rs) k)
  clear hr hrs h0
  go_enter Try.func57, Try.ntmps57
  go_wp2
  go_loop [3, 11] (fun s i => ∃ k t : Nat, k ≤ m ∧ i = .int .i64 (k : Int) ∧ s = .int .i64 (t : Int) ∧ Hid (t = (rs.take k).flatten.length) ∧ t ≤ 100000) (fun _ i => m - (intOf i).toNat)
  case atStart => exact ⟨0, 0, Nat.zero_le _, rfl, rfl, rfl, by omega⟩
  case round =>
    obtain ⟨k, t, hk, rfl, rfl, HK, ht⟩ := hrel
    by_cases hlt : k < m
    · have jk : (k : Int) < (m : Int) := by omega
      obtain ⟨x, hx⟩ := get_of_lt (l := rs) (k := k) (by rw [HL.out]; exact hlt)
      obtain ⟨A, c, c0, _⟩ := HR.out k x hx
      have HF := Lib.hid (flat_take hx)
      have hb : t + x.length ≤ 100000 := by
        have h1 := HT.out (k + 1)
        rw [HF.out, List.length_append, ← HK.out] at h1
        omega
      have i1 : IntKind.i64.wrap ((t : Int) + (x.length : Int)) = ((t + x.length : Nat) : Int) := by rw [IntWalk.i64_in _ (by omega)]; omega
      have n1 : ¬ ((t + x.length : Nat) : Int) < 0 := by omega
      clear hx
      go_wp2
      go_round
      case rel => exact ⟨k + 1, t + x.length, by omega, by go_num, rfl, by show _ = _; rw [HF.out, List.length_append, HK.out], hb⟩
      case measure => simp [intOf]; omega
    · obtain rfl : m = k := by omega
      have jk : ¬ (m : Int) < (m : Int) := by omega
      have HE : Hid (t = rs.flatten.length) := by
        show _ = _
        rw [HK.out, List.take_of_length_le (by rw [HL.out]; exact Nat.le_refl _)]
      have ht0 : 0 < t := by rw [HE.out]; exact H0.out
      go_wp2_with (go_at_call 89; refine (growSt t ht0 ht _).mono ?_; rintro e w1 ⟨cc, rfl, ho1, hb1⟩)
      have HO1 := Lib.hid ho1
      have HB1 := Lib.hid hb1
      clear ho1 hb1
      go_loopw [6, 27] (fun v i wr => ∃ (k t' : Nat) (A : Option Addr) (c : Nat), k ≤ m ∧ i = .int .i64 (k : Int) ∧ v = .slice A t' c ∧ t' ≤ 100000 ∧ Hid (t' = (rs.take k).flatten.length) ∧ Hid (wr.ownsRow w.heap.size 64 3 (.slice A t' c) t' (wksCells (rs.take k).flatten)) ∧ Hid (Below w.heap.size w wr)) (fun _ i _ => m - (intOf i).toNat)
      case atStart => exact ⟨0, 0, some ⟨w.heap.size, 0, none⟩, cc, Nat.zero_le _, rfl, rfl, by omega, rfl, HO1, HB1⟩
      case round =>
        clear HO1 HB1
        obtain ⟨k, t', A, c, hk, rfl, rfl, ht', HK', HO, HB⟩ := hrel
        obtain ⟨wo, rfl⟩ : ∃ wo : World, wo = wr := ⟨_, rfl⟩
        by_cases hlt : k < m
        · have jk : (k : Int) < (m : Int) := by omega
          obtain ⟨x, hx⟩ := get_of_lt (l := rs) (k := k) (by rw [HL.out]; exact hlt)
          obtain ⟨A2, c2, c0, hx2⟩ := HR.out k x hx
          have HF := Lib.hid (flat_take hx)
          have hb : t' + x.length ≤ 100000 := by
            have h1 := HT.out (k + 1)
            rw [HF.out, List.length_append, ← HK'.out] at h1
            omega
          have c9 : wo.cell? ⟨g, k, none⟩ = some (.slice A2 x.length c2) := (HB.out.cell (p := ⟨g, k, none⟩) hg).trans c0
          have HX2 := Lib.hid (hx2.up HB.out)
          have hzz := HB.out.size
          clear hx c0 hx2
          go_wp2_with (at_builtin; refine wpList_appSt rfl (.tmp 31) (.tmp 32) rfl w.heap.size (.slice A t' c) t' _ rfl HO.out A2 x.length c2 x rfl HX2.out rfl (by omega) hzz ?_; intro A3 c3 w3 ho3 hg3)
          go_roundw
          case rel => exact ⟨k + 1, t' + x.length, A3, c3, by omega, by go_num, rfl, hb, by show _ = _; rw [HF.out, List.length_append, HK'.out], by show World.ownsRow _ _ _ _ _ _ _; rw [HF.out]; exact ho3, HB.out.grown hg3 hzz (fun r hr => (HO.out.lt r hr).1)⟩
          case measure => first | (simp [intOf]; done) | (simp [intOf]; omega)
        · obtain rfl : m = k := by omega
          have jk : ¬ (m : Int) < (m : Int) := by omega
          have HE2 : Hid ((rs.take m).flatten = rs.flatten) := by show _ = _; rw [List.take_of_length_le (by rw [HL.out]; exact Nat.le_refl _)]
          go_wp2
          go_ret
          exact ⟨A, t', c, rfl, by rw [← HE2.out]; exact HO.out, by rw [← HE2.out]; exact HK'.out.symm, HB.out⟩
set_option maxRecDepth 100000 in
set_option maxHeartbeats 400000 in
theorem reachesC (A : Option Addr) (n c : Nat) (xs : List Wk) (w : World) (hn : n ≤ 1000000000) (hx : RdW w w.heap.size A xs) (hl : xs.length = n) :
    Calls Try.prog 58 #[.slice A n c] w fun e w' => e = .returned (.int .i64 (reachN xs : Nat)) ∧ Below w.heap.size w w' := by
  have HX := Lib.hid hx; clear hx
  have HL := Lib.hid hl; clear hl
  go_enter Try.func58, Try.ntmps58
  go_wp2
  go_loopw [3, 8] (fun s i wr => ∃ k r : Nat, k ≤ n ∧ r ≤ k ∧ i = .int .i64 k ∧ s = .int .i64 (r : Int) ∧ Hid (r = reachN (xs.take k)) ∧ Hid (Below w.heap.size w wr)) (fun _ i _ => n - (intOf i).toNat)
  case atStart => exact ⟨0, 0, Nat.zero_le _, Nat.le_refl _, rfl, rfl, rfl, Below.refl _ _⟩
  case round =>
    obtain ⟨k, r, hk, hrk, rfl, rfl, HR, HB⟩ := hrel
    obtain ⟨wo, rfl⟩ : ∃ wo : World, wo = wr := ⟨_, rfl⟩
    by_cases hlt : k < n
    · have jk : (k : Int) < (n : Int) := by omega
      obtain ⟨x, hx⟩ := get_of_lt (l := xs) (k := k) (by rw [HL.out]; exact hlt)
      obtain ⟨b, o, rfl, hb, c1, c2, c3⟩ := (HX.out.up HB.out) k x hx
      have HT := Lib.hid (reachN_take hx)
      have hzz := HB.out.size
      clear hx
      have i1 : IntKind.i64.wrap ((r : Int) + 1) = (r : Int) + 1 := IntWalk.i64_in _ (by omega)
      by_cases h1 : x.kind = 1
      · rw [h1] at c1
        go_wp2
        go_roundw
        case rel => exact ⟨k + 1, r + 1, by omega, by omega, by go_num, by go_num, by show _ = _; rw [HT.out, if_pos h1, HR.out], HB.out.alloc (by omega) _⟩
        case measure => first | (simp [intOf]; done) | (simp [intOf]; omega)
      · have h1' : (x.kind == 1) = false := by simpa using h1
        go_wp2
        go_roundw
        case rel => exact ⟨k + 1, r, by omega, by omega, by go_num, rfl, by show _ = _; rw [HT.out, if_neg h1, HR.out]; rfl, HB.out.alloc (by omega) _⟩
        case measure => first | (simp [intOf]; done) | (simp [intOf]; omega)
    · obtain rfl : k = n := by omega
      have jk : ¬ (k : Int) < (k : Int) := by omega
      go_wp2
      go_ret
      exact ⟨ret_int (by rw [HR.out, List.take_of_length_le (by rw [HL.out]; exact Nat.le_refl _)]), HB.out⟩
end Go.Proofs.Ytnjenggijmbhcaa
