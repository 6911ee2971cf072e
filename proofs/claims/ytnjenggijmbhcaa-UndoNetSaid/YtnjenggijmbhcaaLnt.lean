/-
  The walk of UndoNet: it returns true, given undo.Net's contract.
-/
import Derived.Test.YtnjenggijmbhcaaLal
import Derived.Test.YtnjenggijmbhcaaR04c
namespace Go.Proofs.Ytnjenggijmbhcaa
open Go.RowKit
abbrev vU16 (z : Int) : Value := .int .u16 z
theorem step_appW2 {w : World} {ops : Array Oper} {o : Oper} {a : Act} {K : Act → World → Prop} {Q : Exit → Act → World → Prop} {E : Prop} (hgd : o.guard = none) (s x : Operand)
    (ho : o.op = .call { callee := .builtin .append, args := #[s, x], argTypes := #[22, 22] })
    (base : Nat) (b n c : Nat) (xs : List Wk) (hs : a.eval s = .slice (some ⟨b, 0, none⟩) n c) (hown : w.ownsRow base 26 3 (.slice (some ⟨b, 0, none⟩) n c) n (wksCells xs))
    (A : Option Addr) (m d : Nat) (ws : List Wk) (hx : a.eval x = .slice A m d) (hr : RdW w w.heap.size A ws) (hl : ws.length = m)
    (hn : n + m ≤ 1000000000) (hbase : base ≤ w.heap.size)
    (h : ∀ g c' rest w', w'.ownsRow base 26 3 (.slice (some ⟨g, 0, none⟩) (n + m) c') (n + m) (wksCells (xs ++ ws)) → Has w' g 26 (wksCells (xs ++ ws) ++ rest) → base ≤ g → n + m ≤ c' → w.grownBy w' (some b) → K (a.put o.dst (.slice (some ⟨g, 0, none⟩) (n + m) c')) w') :
    if Region.wanted o (yielded ops a.tmps) = true then o.wp Try.prog a w K Q else E := by
  have key : ∀ A' c' w', w'.ownsRow base 26 3 (.slice A' (n + m) c') (n + m) (wksCells (xs ++ ws)) → A' ≠ none → w.grownBy w' (some b) → K (a.put o.dst (.slice A' (n + m) c')) w' := by
    intro A' c' w' ho' hne hg'
    have ho2 := ho'
    rcases ho'.2 with ⟨hv, _⟩ | ⟨g, cap, cur, hv, hbg, hg, hnc, hcm, hcs, ht⟩
    · injection hv with h1; exact (hne h1).elim
    · injection hv with h1 h2 h3
      subst h1; subst h3
      refine h g c' (cur.toList.drop ((n + m) * 3)) w' ho2 ?_ hbg hnc hg'
      unfold Has
      rw [hg, ← ht, List.take_append_drop]
  cases A with
  | none =>
    have hw0 : ws = [] := by
      cases ws with
      | nil => rfl
      | cons y ws => obtain ⟨b, o', e, _⟩ := hr 0 y rfl; cases e
    subst hw0
    obtain rfl : 0 = m := hl
    have hw : Region.wanted o (yielded ops a.tmps) = true := by simp [Region.wanted, hgd]
    rw [if_pos hw]
    obtain ⟨i, hi, hz, hsize, hb⟩ := info_parts infoWk
    have hcc := own_caps hown
    have hrun := run_app0 (P := Try.prog) w 22 o.type 26 i Try.underlying22 hi (some ⟨b, 0, none⟩) n c d hcc.1
    unfold Oper.wp execOp
    simp only [ho, resolve, invoke, builtin, Sem.run_bind, Sem.run_pure, Result.andThen_ok, List.map_toArray, List.map_cons, List.map_nil, hs, hx, hrun]
    exact key (some ⟨b, 0, none⟩) c w (by rw [List.append_nil]; exact hown) (fun e => by cases e) ⟨rfl, rfl, rfl, Nat.le_refl _, fun _ _ _ => rfl⟩
  | some ad =>
    have happ : wksCells xs ++ wksCells ws = wksCells (xs ++ ws) := by simp [wksCells]
    refine step_appN hgd s x 22 ho base 26 (.agg #[.int .i64 0, .int .i64 0, .string ⟨#[]⟩]) 3 32 Try.underlying22 infoWk rfl (by omega) (by omega) _ n (wksCells xs) hs hown ad m d (wksCells ws) hx (by rw [wksCells_len, hl]) ?_ (one_wks ws) hn hbase ?_
    · cases ws with
      | nil => intro j u hu; simp [wksCells] at hu
      | cons y ws =>
        obtain ⟨b, o', e, _⟩ := hr 0 y rfl
        injection e with e
        subst e
        exact rdW_wks hr
    · intro v' w' hown' hgrow' hnil' _
      obtain ⟨A', c', rfl⟩ := own_form hown'
      refine key A' c' w' (by rw [← happ]; exact hown') (fun e => ?_) hgrow'
      subst e
      rcases hown'.2 with ⟨hv, _⟩ | ⟨g, cap, cur, hv, _⟩
      · have := (hnil'.1 hv).1; cases this
      · cases hv
theorem wp_region_join {P : Program} {id : Nat} {ops : Array Oper} {b : Bool} {Q : Exit → Act → World → Prop} {a : Act} {w : World} (R : Act → Act → World → Prop)
    (h1 : (Code.region id ops b).wp P (fun e a' w' => e = .normal ∧ R a a' w') a w) (h2 : ∀ a' w', R a a' w' → Q .normal a' w') : (Code.region id ops b).wp P Q a w :=
  Code.wp_mono (fun e a' w' ⟨he, hr⟩ => by rw [he]; exact h2 a' w' hr) h1
theorem own_litC {base b : Nat} {e : TypeId} {size : Nat} (w : World) (h : base ≤ w.heap.size) (hb : w.heap.size = b) : (w.alloc (.cells #[] e)).ownsRow base e size (.slice (some ⟨b, 0, none⟩) 0 0) 0 [] := by
  subst hb; exact own_lit0 h
theorem Has.ne_type {w : World} {g g' : Nat} {t t' : TypeId} {cs cs' : List Value} (h : Has w g t cs) (h' : Has w g' t' cs') (ht : t ≠ t') : g ≠ g' := fun e => by
  subst e
  unfold Has at h h'
  rw [h] at h'
  injection h' with h'
  injection h' with _ h' _
  exact ht h'
theorem wks_set (L : List Wk) (rest : List Value) (y : Wk) : ∀ j, j < L.length → (((wksCells L ++ rest).set (j * 3) (.int .i64 y.kind)).set (j * 3 + 1) (.int .i64 y.at_)).set (j * 3 + 2) (.string y.word) = wksCells (L.set j y) ++ rest := by
  induction L with
  | nil => intro j hj; simp at hj
  | cons z L ih =>
    intro j hj
    match j with
    | 0 => rfl
    | j + 1 =>
      have := ih j (by simpa using hj)
      have e : (j + 1) * 3 = j * 3 + 3 := by omega
      rw [e]
      show (((wkCells z ++ wksCells L ++ rest).set (j * 3 + 3) _).set (j * 3 + 3 + 1) _).set (j * 3 + 3 + 2) _ = wkCells z ++ wksCells (L.set j y) ++ rest
      rw [List.append_assoc, List.append_assoc, ← this]
      rfl
theorem two_split {L : List Wk} {j : Nat} {x y : Wk} (hx : L[j]? = some x) (hy : L[j + 1]? = some y) : ∃ l1 l2, L = l1 ++ x :: y :: l2 ∧ (L.set j y).set (j + 1) x = l1 ++ y :: x :: l2 := by
  refine ⟨L.take j, L.drop (j + 2), ?_, ?_⟩
  · have h1 := lt_of_get hx
    have h2 := lt_of_get hy
    have e1 : L.drop j = x :: L.drop (j + 1) := by
      rw [List.drop_eq_getElem_cons h1]
      rw [List.getElem?_eq_getElem h1] at hx; injection hx with hx; rw [hx]
    have e2 : L.drop (j + 1) = y :: L.drop (j + 2) := by
      rw [List.drop_eq_getElem_cons h2]
      rw [List.getElem?_eq_getElem h2] at hy; injection hy with hy; rw [hy]
    rw [← e2, ← e1, List.take_append_drop]
  · have h1 := lt_of_get hx
    have h2 := lt_of_get hy
    apply List.ext_getElem?
    intro k
    rcases Nat.lt_trichotomy k j with h | h | h
    · rw [List.getElem?_set_ne (by omega), List.getElem?_set_ne (by omega), List.getElem?_append_left (by simp; omega), List.getElem?_take_of_lt h]
    · subst h
      rw [List.getElem?_set_ne (by omega), List.getElem?_set_self (by omega), List.getElem?_append_right (by simp; omega)]
      simp [Nat.min_eq_left (Nat.le_of_lt h1)]
    · rcases Nat.lt_or_ge k (j + 2) with h' | h'
      · obtain rfl : k = j + 1 := by omega
        rw [List.getElem?_set_self (by simp; omega), List.getElem?_append_right (by simp; omega)]
        simp [Nat.min_eq_left (Nat.le_of_lt h1)]
      · rw [List.getElem?_set_ne (by omega), List.getElem?_set_ne (by omega), List.getElem?_append_right (by simp; omega)]
        obtain ⟨r, rfl⟩ : ∃ r, k = j + 2 + r := ⟨k - (j + 2), by omega⟩
        have e : j + 2 + r - (L.take j).length = r + 1 + 1 := by simp; omega
        rw [e, List.getElem?_cons_succ, List.getElem?_cons_succ, List.getElem?_drop]
theorem has_rdW' {w : World} {g : Nat} {t : TypeId} {ws : List Wk} {rest : List Value} (h : Has w g t (wksCells ws ++ rest)) : RdW w w.heap.size (some ⟨g, 0, none⟩) ws := fun k x hx => by
  obtain ⟨e1, e2, e3⟩ := wksCells_get hx
  have l1 := lt_of_get e1
  have l2 := lt_of_get e2
  have l3 := lt_of_get e3
  exact ⟨g, 0, rfl, h.lt, by rw [Nat.zero_add]; exact (h.cell _).trans ((List.getElem?_append_left l1).trans e1), by rw [Nat.zero_add]; exact (h.cell _).trans ((List.getElem?_append_left l2).trans e2), by rw [Nat.zero_add]; exact (h.cell _).trans ((List.getElem?_append_left l3).trans e3)⟩
theorem rdW_take {w : World} {B : Nat} {A : Option Addr} {ws : List Wk} (h : RdW w B A ws) (j : Nat) : RdW w B A (ws.take j) := fun k x hx => by
  rw [List.getElem?_take] at hx
  split at hx
  · exact h k x hx
  · cases hx
theorem rdW_drop {w : World} {B g : Nat} {ws : List Wk} (h : RdW w B (some ⟨g, 0, none⟩) ws) (j : Nat) : RdW w B (some ⟨g, j * 3, none⟩) (ws.drop j) := fun k x hx => by
  rw [List.getElem?_drop] at hx
  obtain ⟨b, o, e, h1, h2, h3, h4⟩ := h _ x hx
  injection e with e; injection e with e1 e2
  subst e1 e2
  have e : 0 + (j + k) * 3 = j * 3 + k * 3 := by omega
  rw [e] at h2 h3 h4
  exact ⟨g, j * 3, rfl, h1, h2, h3, h4⟩
theorem SOk.put {p : Int} {L : List Wk} (h : SOk p L) {w : Wk} (hw : SOk p [w]) {j : Nat} (hl : L.length + 2 ≤ 400) : SOk p (L.take j ++ w :: undoW w :: L.drop j) := by
  have h2 : SOk p (L ++ ([w] ++ [w].map undoW)) := h.app (hw.app hw.undo (by simp)) (by simp; omega)
  refine h2.sub (by simp; omega) fun x hx => ?_
  simp only [List.mem_append, List.mem_cons, List.map_cons, List.map_nil, List.not_mem_nil, or_false] at hx ⊢
  rcases hx with h | h | h | h
  · exact .inl (List.mem_of_mem_take h)
  · exact .inr (.inl h)
  · exact .inr (.inr h)
  · exact .inl (List.mem_of_mem_drop h)
theorem wk_cells {w : World} {g : Nat} {t : TypeId} {ws : List Wk} {rest : List Value} (h : Has w g t (wksCells ws ++ rest)) {k : Nat} {x : Wk} (hx : ws[k]? = some x) :
    w.cell? ⟨g, k * 3, none⟩ = some (.int .i64 x.kind) ∧ w.cell? ⟨g, k * 3 + 1, none⟩ = some (.int .i64 x.at_) ∧ w.cell? ⟨g, k * 3 + 2, none⟩ = some (.string x.word) := by
  obtain ⟨e1, e2, e3⟩ := wksCells_get hx
  have l1 := lt_of_get e1
  have l2 := lt_of_get e2
  have l3 := lt_of_get e3
  exact ⟨(h.cell _).trans ((List.getElem?_append_left l1).trans e1), (h.cell _).trans ((List.getElem?_append_left l2).trans e2), (h.cell _).trans ((List.getElem?_append_left l3).trans e3)⟩
set_option maxRecDepth 100000 in
set_option maxHeartbeats 2000000 in
theorem netOf (NU : NetSays) (p k a : Int) (s : ByteArray) (A B : Option Addr) (n c m d : Nat) (us : List Wk) (zs : List Int) (w : World) (hn : n ≤ 9223372036854775807) (hm : m ≤ 9223372036854775807) (hnc : n ≤ c)
    (hu : RdW w w.heap.size A us) (hl : us.length = n) (hs : ∀ x ∈ us, x.word.size ≤ 9223372036854775807) (hs2 : s.size ≤ 9223372036854775807)
    (hz : Rd1 vU16 w w.heap.size B zs) (hzl : zs.length = m) (hzr : ∀ z ∈ zs, 0 ≤ z ∧ z ≤ 65535) :
    Calls Try.prog 4 #[.agg #[.int .i64 p, .slice A n c], .slice B m d, .agg #[.int .i64 k, .int .i64 a, .string s]] w fun e w' => e = .returned (.bool true) ∧ Below w.heap.size w w' := by
  have AW := Lib.hid (awakeOf NU)
  have NU := Lib.hid NU
  have HU := Lib.hid hu; clear hu
  have HL := Lib.hid hl; clear hl
  have HS := Lib.hid hs; clear hs
  have HZ := Lib.hid hz; clear hz
  have HZL := Lib.hid hzl; clear hzl
  have HZR := Lib.hid hzr; clear hzr
  have K0 : Has ((w.alloc (.cells #[.int .i64 p, .slice A n c] 24)).alloc (.cells #[.int .i64 k, .int .i64 a, .string s] 26)) w.heap.size 24 [.int .i64 p, .slice A n c] := (Has.new rfl).alloc _
  have K1 : Has ((w.alloc (.cells #[.int .i64 p, .slice A n c] 24)).alloc (.cells #[.int .i64 k, .int .i64 a, .string s] 26)) (w.heap.size + 1) 26 [.int .i64 k, .int .i64 a, .string s] := by
    have := Has.new (w := w.alloc (.cells #[.int .i64 p, .slice A n c] 24)) (arr := #[.int .i64 k, .int .i64 a, .string s]) (t := 26) (cs := [.int .i64 k, .int .i64 a, .string s]) rfl
    simpa using this
  have B0 : Below w.heap.size w ((w.alloc (.cells #[.int .i64 p, .slice A n c] 24)).alloc (.cells #[.int .i64 k, .int .i64 a, .string s] 26)) := by go_grown
  have C1 := Lib.hid (fun (W : World) (hb : Below w.heap.size w W) => check04 p A n c us W hn (HU.out.up hb) HL.out HS.out)
  by_cases h1 : schk p us = 0
  rotate_left
  · have h1' : (schk p us != 0) = true := by simpa using h1
    clear h1
    generalize schk p us = e1 at *
    go_enter Try.func4, Try.ntmps4
    go_wp2_with fail
    refine (C1.out _ (by go_grown)).mono ?_
    rintro e w1 ⟨rfl, hb1⟩
    go_wp2_with fail
    refine (AW.out _).mono ?_
    rintro e w2 ⟨rfl, hb2⟩
    go_wp2
    go_ret
    exact ⟨rfl, bvia (bvia B0 hb1) hb2⟩
  have H1 := Lib.hid h1; clear h1
  by_cases h3 : 60 < (n : Int)
  · go_enter Try.func4, Try.ntmps4
    go_wp2_with fail
    refine (C1.out _ (by go_grown)).mono ?_
    rintro e w1 ⟨rfl, hb1⟩
    rw [H1.out]
    obtain ⟨a0, a1⟩ := (K0.below hb1 K0.lt).two
    go_wp2_with fail
    refine (AW.out _).mono ?_
    rintro e w3 ⟨rfl, hb3⟩
    go_wp2
    go_ret
    exact ⟨rfl, bvia (bvia B0 hb1) hb3⟩
  have d3 : decide ((60 : Int) < n) = false := decide_eq_false h3
  by_cases h4 : 500 < (m : Int)
  · go_enter Try.func4, Try.ntmps4
    go_wp2_with fail
    refine (C1.out _ (by go_grown)).mono ?_
    rintro e w1 ⟨rfl, hb1⟩
    rw [H1.out]
    obtain ⟨a0, a1⟩ := (K0.below hb1 K0.lt).two
    go_wp2_with fail
    refine (AW.out _).mono ?_
    rintro e w3 ⟨rfl, hb3⟩
    go_wp2
    go_ret
    exact ⟨rfl, bvia (bvia B0 hb1) hb3⟩
  have d4 : decide ((500 : Int) < m) = false := decide_eq_false h4
  have hn6 : n ≤ 60 := by omega
  have hm6 : m ≤ 500 := by omega
  clear h3 h4
  have U := Lib.hid (schk_zero H1.out)
  go_enter Try.func4, Try.ntmps4
  go_wp2_with fail
  refine (C1.out _ (by go_grown)).mono ?_
  rintro e w1 ⟨rfl, hb1⟩
  rw [H1.out]
  have HK0 := Lib.hid (K0.below hb1 K0.lt)
  have HK1 := Lib.hid (K1.below hb1 K1.lt)
  have B1 : Below w.heap.size w w1 := bvia B0 hb1
  clear hb1 B0 C1 K0 K1
  have HQ := Lib.hid (show ∀ W, Below w1.heap.size w1 W → W.cell? ⟨w.heap.size, 0, none⟩ = some (.int .i64 p) ∧ W.cell? ⟨w.heap.size, 1, none⟩ = some (.slice A n c) ∧ W.cell? ⟨w.heap.size + 1, 0, none⟩ = some (.int .i64 k) ∧ W.cell? ⟨w.heap.size + 1, 1, none⟩ = some (.int .i64 a) ∧ W.cell? ⟨w.heap.size + 1, 2, none⟩ = some (.string s) from
    fun W hb => ⟨(HK0.out.below hb HK0.out.lt).cell 0, (HK0.out.below hb HK0.out.lt).cell 1, (HK1.out.below hb HK1.out.lt).cell 0, (HK1.out.below hb HK1.out.lt).cell 1, (HK1.out.below hb HK1.out.lt).cell 2⟩)
  have HZs := Lib.hid (show ∀ W, Below w1.heap.size w1 W → w.heap.size + 1 < W.heap.size from fun W hb' => by have := hb'.size; have := HK1.out.lt; omega)
  obtain ⟨a0, a1, b0, b1, b2⟩ := HQ.out _ (Below.refl _ _)
  go_wp2_with fail
  refine (netOk NU.out U.out A n c _ (HU.out.up B1) HL.out hnc).mono ?_
  rintro e w2 ⟨A2, n2, c2, rfl, r2, l2, m2, o2, hb2⟩
  have b2' : Below w1.heap.size w1 (w2.alloc (.cells #[.int .i64 p, .slice A2 n2 c2] 24)) := bvia hb2 (by go_grown)
  have Y2 : Has (w2.alloc (.cells #[.int .i64 p, .slice A2 n2 c2] 24)) w2.heap.size 24 [.int .i64 p, .slice A2 n2 c2] := Has.new rfl
  have R2 := Lib.hid (r2.up (show Below w2.heap.size w2 (w2.alloc (.cells #[.int .i64 p, .slice A2 n2 c2] 24)) by go_grown)); clear r2 hb2 a0 a1 b0 b1 b2
  go_wp2_with fail
  refine (netOk NU.out U.out.net A2 n2 c2 _ R2.out l2 m2).mono ?_
  rintro e w3 ⟨A3, n3, c3, rfl, r3, l3, m3, o3, hb3⟩
  rw [net_net] at r3 l3
  have u23 : Below (w2.alloc (.cells #[.int .i64 p, .slice A2 n2 c2] 24)).heap.size (w2.alloc (.cells #[.int .i64 p, .slice A2 n2 c2] 24)) (w3.alloc (.cells #[.int .i64 p, .slice A3 n3 c3] 24)) := bvia hb3 (by go_grown)
  have Y3 : Has (w3.alloc (.cells #[.int .i64 p, .slice A3 n3 c3] 24)) w3.heap.size 24 [.int .i64 p, .slice A3 n3 c3] := Has.new rfl
  have R3 := Lib.hid (r3.up (show Below w3.heap.size w3 (w3.alloc (.cells #[.int .i64 p, .slice A3 n3 c3] 24)) by go_grown)); clear r3 hb3
  have Y2' := Y2.below u23 Y2.lt
  have R2' := Lib.hid (R2.out.up u23)
  obtain ⟨x0, x1⟩ := Y2'.two
  have zx := Y2'.lt
  go_wp2_with fail
  refine (same04 p p A2 A3 n2 n3 c2 c3 _ _ _ (by have := netL_len us; rw [HL.out] at this; omega) (by have := netL_len us; rw [HL.out] at this; omega) R2'.out R3.out l2 l3).mono ?_
  rintro e w4 ⟨rfl, hb4⟩
  rw [beq_self_eq_true, beq_self_eq_true]
  have HY := Lib.hid (Y2'.below hb4 Y2'.lt)
  have HR := Lib.hid (R2'.out.up hb4)
  have b4 : Below w1.heap.size w1 w4 := bvia (bvia b2' u23) hb4
  clear x0 x1 zx Y2 Y3 Y2' R2 R2' R3 b2' u23 hb4
  obtain ⟨a0, a1, b0, b1, b2⟩ := HQ.out _ b4
  have q0 := HZs.out _ b4
  have q0' : w.heap.size < w4.heap.size := by omega
  clear b0 b1 b2 l3 m3 o3
  go_wp2
  have HF := Lib.hid (show ∀ W, Below w4.heap.size w4 W → W.cell? ⟨w.heap.size, 0, none⟩ = some (.int .i64 p) ∧ W.cell? ⟨w.heap.size, 1, none⟩ = some (.slice A n c) from fun W hb => ⟨(hb.cell q0').trans a0, (hb.cell q0').trans a1⟩)
  have HW4 : Below w.heap.size w w4 := bvia B1 b4
  have HB5 := Lib.hid (show Has ((w4.alloc (.cells #[] 26)).alloc (.cells #[.int .i64 0, .slice none 0 0] 24)) (w4.heap.size + 1) 24 [.int .i64 0, .slice none 0 0] by
    have := Has.new (w := w4.alloc (.cells #[] 26)) (arr := #[.int .i64 0, .slice none 0 0]) (t := 24) (cs := [.int .i64 0, .slice none 0 0]) rfl
    simpa using this)
  have HC5 := Lib.hid (show Has ((w4.alloc (.cells #[.int .i64 0, .slice none 0 0] 24)).alloc (.cells #[] 26)) w4.heap.size 24 [.int .i64 0, .slice none 0 0] from (Has.new rfl).alloc _)
  have nz1 : w4.heap.size + 1 ≠ w.heap.size := by omega
  have nz2 : w.heap.size ≠ w4.heap.size + 1 := by omega
  have nz3 : w4.heap.size ≠ w.heap.size := by omega
  have nz4 : w.heap.size ≠ w4.heap.size := by omega
  refine wp_region_join (fun a' a'' W => ∃ gT b56 g5 c5 rest, a'' = (((((((a'.put (some 54) (.pointer (some ⟨w.heap.size, 0, none⟩))).put (some 55) (.int .i64 p)).put (some 56) (.slice (some ⟨b56, 0, none⟩) 0 0)).put (some 57) (.pointer (some ⟨w.heap.size, 1, none⟩))).put (some 58) (.slice A n c)).put (some 59) (.slice (some ⟨g5, 0, none⟩) n c5)).put (some 60) (.agg #[.int .i64 p, .slice (some ⟨g5, 0, none⟩) n c5])).put (some 11) (.pointer (some ⟨gT, 0, none⟩)) ∧ Has W gT 24 [.int .i64 p, .slice (some ⟨g5, 0, none⟩) n c5] ∧ Has W g5 26 (wksCells us ++ rest) ∧ n ≤ c5 ∧ w4.heap.size ≤ gT ∧ w4.heap.size ≤ g5 ∧ Below w4.heap.size w4 W) ?_ ?_
  · go_region_held3 (fun W => W.cell? ⟨w.heap.size, 0, none⟩ = some (.int .i64 p) ∧ W.cell? ⟨w.heap.size, 1, none⟩ = some (.slice A n c)) (go_keep) (first | (refine step_appW2 rfl (.tmp 56) (.tmp 58) rfl w4.heap.size w4.heap.size 0 0 [] rfl (own_lit0 (Nat.le_refl _)) A n c us rfl (HU.out.up (bvia HW4 (by go_grown))) HL.out (by omega) (by simp) ?_; intro g5 c5 rest5 w5 ho5 hh5 hg5 hcc5 hgrow5; have hB5 := (((Below.refl w4.heap.size w4).alloc (Nat.le_refl _) (.cells #[] 26)).drew).grown hgrow5 (by simp) (fun kk hk => by injection hk with hk; omega); obtain ⟨t0, t1⟩ := HF.out _ hB5; have ql : w.heap.size < w5.heap.size := Nat.lt_of_lt_of_le q0' hB5.size) | (refine step_appW2 rfl (.tmp 56) (.tmp 58) rfl w4.heap.size w4.heap.size 0 0 [] rfl ((own_lit0 (Nat.le_refl _)).alloc (.cells #[.int .i64 0, .slice none 0 0] 24)) A n c us rfl (HU.out.up (bvia HW4 (by go_grown))) HL.out (by omega) (by simp; omega) ?_; intro g5 c5 rest5 w5 ho5 hh5 hg5 hcc5 hgrow5; have hB5 := ((((Below.refl w4.heap.size w4).alloc (Nat.le_refl _) (.cells #[] 26)).alloc (by simp) (.cells #[.int .i64 0, .slice none 0 0] 24)).drew).grown hgrow5 (by simp; omega) (fun kk hk => by injection hk with hk; omega); obtain ⟨t0, t1⟩ := HF.out _ hB5; have ql : w.heap.size < w5.heap.size := Nat.lt_of_lt_of_le q0' hB5.size; have hT5 := HB5.out.same (hgrow5.block (w4.heap.size + 1) (by simp) (fun e => by injection e with e; omega)); have x0 := hT5.two.1; have x1 := hT5.two.2; have f0 := hT5.free 0; have f1 := hT5.free 1; have zt := hT5.lt) | (refine step_appW2 rfl (.tmp 56) (.tmp 58) rfl w4.heap.size (w4.heap.size + 1) 0 0 [] rfl (own_litC (w4.alloc (.cells #[.int .i64 0, .slice none 0 0] 24)) (by simp) (by simp)) A n c us rfl (HU.out.up (bvia HW4 (by go_grown))) HL.out (by omega) (by simp; omega) ?_; intro g5 c5 rest5 w5 ho5 hh5 hg5 hcc5 hgrow5; have hB5 := ((((Below.refl w4.heap.size w4).alloc (Nat.le_refl _) (.cells #[.int .i64 0, .slice none 0 0] 24)).alloc (by simp) (.cells #[] 26)).drew).grown hgrow5 (by simp; omega) (fun kk hk => by injection hk with hk; omega); obtain ⟨t0, t1⟩ := HF.out _ hB5; have ql : w.heap.size < w5.heap.size := Nat.lt_of_lt_of_le q0' hB5.size; have hT5 := HC5.out.same (hgrow5.block w4.heap.size (by simp; omega) (fun e => by injection e with e; omega)); have x0 := hT5.two.1; have x1 := hT5.two.2; have f0 := hT5.free 0; have f1 := hT5.free 1; have zt := hT5.lt))
    · exact ⟨rfl, w5.heap.size, w4.heap.size, g5, c5, rest5, rfl, Has.new rfl, hh5.alloc _, by omega, hB5.size, hg5, hB5.alloc hB5.size _⟩
    · have ne := hT5.ne_type hh5 (by decide)
      exact ⟨rfl, w4.heap.size + 1, w4.heap.size, g5, c5, rest5, rfl, (hT5.set 0 _).set 1 _, (hh5.far ne.symm 0 _).far ne.symm 1 _, by omega, by omega, hg5, (hB5.setCell (by simp) _).setCell (by simp) _⟩
    · have ne := hT5.ne_type hh5 (by decide)
      exact ⟨rfl, w4.heap.size, w4.heap.size + 1, g5, c5, rest5, rfl, (hT5.set 0 _).set 1 _, (hh5.far ne.symm 0 _).far ne.symm 1 _, by omega, Nat.le_refl _, hg5, (hB5.setCell (by simp) _).setCell (by simp) _⟩
  clear HB5 HC5 nz1 nz2 nz3 nz4 a0 a1
  rintro a' W ⟨gT, b56, g5, c5, rest, rfl, hT, hG, hc5, hgT, hg5, hB5⟩
  go_simp
  have hne : gT ≠ g5 := hT.ne_type hG (by decide)
  have HW : Below w.heap.size w W := HW4.trans (hB5.mono (Nat.le_of_lt q0'))
  have hz4 := hB5.size
  have HQ4 := Lib.hid (show ∀ W', Below w4.heap.size w4 W' → W'.cell? ⟨w.heap.size, 0, none⟩ = some (.int .i64 p) ∧ W'.cell? ⟨w.heap.size + 1, 0, none⟩ = some (.int .i64 k) ∧ W'.cell? ⟨w.heap.size + 1, 1, none⟩ = some (.int .i64 a) ∧ W'.cell? ⟨w.heap.size + 1, 2, none⟩ = some (.string s) ∧ w.heap.size + 1 < W'.heap.size from
    fun W' hb => by
      have b := bvia b4 hb
      obtain ⟨c0, c1, c2, c3, c4⟩ := HQ.out _ b
      exact ⟨c0, c2, c3, c4, HZs.out _ b⟩)
  clear HF q0 HQ HZs
  go_wp2
  go_loopw [12] (fun t wr => ∃ (i : Nat) (L : List Wk), i ≤ m ∧ t = .int .i64 (i : Int) ∧ L.length = n ∧ (∀ x ∈ L, x ∈ us) ∧ Alike (netL L) (netL us) ∧ Has wr g5 26 (wksCells L ++ rest) ∧ Has wr gT 24 [.int .i64 p, .slice (some ⟨g5, 0, none⟩) n c5] ∧ Below w4.heap.size w4 wr)
    (fun t _ => m - (intOf t).toNat)
  case atStart => exact ⟨0, us, Nat.zero_le _, rfl, HL.out, fun x hx => hx, Alike.refl _, hG, hT, hB5⟩
  case round =>
    clear hT hG hB5 HW hz4
    obtain ⟨i, L, him, rfl, hLn, hLm, hLa, hG, hT, hB⟩ := hrel
    obtain ⟨wo, rfl⟩ : ∃ wo : World, wo = wr := ⟨_, rfl⟩
    have HLn := Lib.hid hLn; clear hLn
    have HLm := Lib.hid hLm; clear hLm
    have HLa := Lib.hid hLa; clear hLa
    have HG := Lib.hid hG; clear hG
    have HT := Lib.hid hT; clear hT
    have hW : Below w.heap.size w wo := HW4.trans (hB.mono (Nat.le_of_lt q0'))
    obtain ⟨e0, e1⟩ := HT.out.two
    have q1 := HT.out.lt
    have q2 := HG.out.lt
    by_cases hgo : i < m ∧ 1 < n
    · obtain ⟨hi, h1n⟩ := hgo
      obtain ⟨z, hz⟩ := get_of_lt (l := zs) (k := i) (by rw [HZL.out]; exact hi)
      obtain ⟨bz, oz, rfl, hbz, z1⟩ := HZ.out _ z hz
      obtain ⟨hz0, hz1⟩ := HZR.out z (mem_of_get hz)
      have z2 : wo.cell? ⟨bz, oz + i, none⟩ = some (.int .u16 z) := by rw [hW.cell hbz]; exact z1
      have q3 : bz < wo.heap.size := by have := hW.size; omega
      have h1n' : (1 : Int) < n := by omega
      have hnz : ((n : Int) - 1 == 0) = false := by simp; omega
      have i1 : IntKind.i64.wrap z = z := IntWalk.i64_in _ (by omega)
      have i2 : IntKind.i64.wrap ((n : Int) - 1) = (n : Int) - 1 := IntWalk.i64_in _ (by omega)
      go_wp2
      have hxc := fun (x : Ext wo) => x.cell
      refine wp_region_ext (by kernel_rfl) (by kernel_rfl) ?_
      repeat (go_big_quiet_step (fail))
      refine wpQuiet_nil ?_
      intro w6 hw'
      have hb6 := ext_below hw'
      clear hw'
      clear hxc
      have hj0 := Int.emod_nonneg z (show (n : Int) - 1 ≠ 0 by omega)
      have hj1 := Int.emod_lt_of_pos z (show (0 : Int) < (n : Int) - 1 by omega)
      obtain ⟨j, hjz⟩ := Int.eq_ofNat_of_zero_le hj0
      rw [hjz] at hj1 ⊢
      clear hjz hj0 i1 i2 hnz z1 z2 hz
      have hj : j + 1 < n := by omega
      obtain ⟨x, hx⟩ := get_of_lt (l := L) (k := j) (by rw [HLn.out]; omega)
      obtain ⟨y, hy⟩ := get_of_lt (l := L) (k := j + 1) (by rw [HLn.out]; exact hj)
      have G6 := Lib.hid (HG.out.below hb6 HG.out.lt)
      have T6 := Lib.hid (HT.out.below hb6 HT.out.lt)
      have B6 : Below w4.heap.size w4 w6 := hB.trans (hb6.mono hB.size)
      obtain ⟨g', o', hA, _, c0, c1, c2⟩ := has_rdW' G6.out _ x hx
      injection hA with hA; injection hA with hA hA2; subst hA; subst hA2
      obtain ⟨g', o', hA, _, d0, d1, d2⟩ := has_rdW' G6.out _ y hy
      injection hA with hA; injection hA with hA hA2; subst hA; subst hA2
      rw [Nat.zero_add] at c0 c1 c2 d0 d1 d2
      obtain ⟨e0', e1'⟩ := T6.out.two
      have hxr := U.out.range x (HLm.out x (mem_of_get hx))
      have hyr := U.out.range y (HLm.out y (mem_of_get hy))
      have hx0 := hxr.1
      have hx1 := hxr.2
      have hy0 := hyr.1
      have hy1 := hyr.2
      have q4 := T6.out.lt
      have q5 := G6.out.lt
      clear e0 e1 q1 q2 q3 hxr hyr
      have HX := Lib.hid hx; clear hx
      have HY' := Lib.hid hy; clear hy
      have i3 : IntKind.i64.wrap ((j : Int) + 1) = (j : Int) + 1 := IntWalk.i64_in _ (by omega)
      have i4 : ((j : Int) + 1).toNat = j + 1 := by omega
      have hjn : j < n := by omega
      have hbA : (0 : Int) ≤ (j : Int) + 1 := by omega
      have hbB : (j : Int) + 1 < (n : Int) := by omega
      cases ht : touch x.at_ y.at_ with
      | true =>
        have HTt := Lib.hid ht; clear ht
        go_wp2
        have hxc := fun (x : Ext w6) => x.cell
        refine wp_region_ext (by kernel_rfl) (by kernel_rfl) ?_
        repeat (go_big_quiet_step ((go_at_call 20; exact ext_call (touch04 _ _ _ _ _ _ _ (by omega) (by omega) (by omega) (by omega)))))
        refine wpQuiet_nil ?_
        intro w7 hw'
        have hb7 := ext_below hw'
        clear hw'
        clear hxc
        rw [HTt.out]
        go_wp2
        go_roundw
        case rel => exact ⟨i + 1, L, by omega, by go_num, HLn.out, HLm.out, HLa.out, G6.out.below hb7 G6.out.lt, T6.out.below hb7 T6.out.lt, B6.trans (hb7.mono B6.size)⟩
        case measure => first | (simp [intOf]; done) | (simp [intOf]; omega)
      | false =>
        have HTt := Lib.hid ht; clear ht
        go_wp2
        have hxc := fun (x : Ext w6) => x.cell
        refine wp_region_ext (by kernel_rfl) (by kernel_rfl) ?_
        repeat (go_big_quiet_step ((go_at_call 20; exact ext_call (touch04 _ _ _ _ _ _ _ (by omega) (by omega) (by omega) (by omega)))))
        refine wpQuiet_nil ?_
        intro w7 hw'
        have hb7 := ext_below hw'
        clear hw'
        clear hxc
        rw [HTt.out]
        have G7 := Lib.hid (G6.out.below hb7 G6.out.lt)
        have T7 := Lib.hid (T6.out.below hb7 T6.out.lt)
        have B7 : Below w4.heap.size w4 w7 := B6.trans (hb7.mono B6.size)
        have k0 := (hb7.cell (p := ⟨g5, j * 3, none⟩) q5).trans c0
        have k1 := (hb7.cell (p := ⟨g5, j * 3 + 1, none⟩) q5).trans c1
        have k2 := (hb7.cell (p := ⟨g5, j * 3 + 2, none⟩) q5).trans c2
        have l0 := (hb7.cell (p := ⟨g5, (j + 1) * 3, none⟩) q5).trans d0
        have l1 := (hb7.cell (p := ⟨g5, (j + 1) * 3 + 1, none⟩) q5).trans d1
        have l2' := (hb7.cell (p := ⟨g5, (j + 1) * 3 + 2, none⟩) q5).trans d2
        have tt := (hb7.cell (p := ⟨gT, 1, none⟩) q4).trans e1'
        have q6 := T7.out.lt
        have q7 := G7.out.lt
        have nz0 : g5 ≠ gT := hne.symm
        clear c0 c1 c2 d0 d1 d2 e0' e1' q4 q5
        go_wp2
        --REGION13
        refine wp_region_noPanic ?_
        refine wp_region_B (fun b w' => w'.cell? ⟨gT, 1, none⟩ = some (.slice (some ⟨g5, 0, none⟩) n c5) ∧ (b = false → w'.cell? ⟨g5, j * 3, none⟩ = some (.int .i64 x.kind) ∧ w'.cell? ⟨g5, j * 3 + 1, none⟩ = some (.int .i64 x.at_) ∧ w'.cell? ⟨g5, j * 3 + 2, none⟩ = some (.string x.word) ∧ w'.cell? ⟨g5, (j + 1) * 3, none⟩ = some (.int .i64 y.kind) ∧ w'.cell? ⟨g5, (j + 1) * 3 + 1, none⟩ = some (.int .i64 y.at_) ∧ w'.cell? ⟨g5, (j + 1) * 3 + 2, none⟩ = some (.string y.word))) 19 (by kernel_rfl) ?_
        have hSS : (fun b w' => w'.cell? ⟨gT, 1, none⟩ = some (.slice (some ⟨g5, 0, none⟩) n c5) ∧ (b = false → w'.cell? ⟨g5, j * 3, none⟩ = some (.int .i64 x.kind) ∧ w'.cell? ⟨g5, j * 3 + 1, none⟩ = some (.int .i64 x.at_) ∧ w'.cell? ⟨g5, j * 3 + 2, none⟩ = some (.string x.word) ∧ w'.cell? ⟨g5, (j + 1) * 3, none⟩ = some (.int .i64 y.kind) ∧ w'.cell? ⟨g5, (j + 1) * 3 + 1, none⟩ = some (.int .i64 y.at_) ∧ w'.cell? ⟨g5, (j + 1) * 3 + 2, none⟩ = some (.string y.word))) false (w7.drew) := ⟨tt, fun _ => ⟨k0, k1, k2, l0, l1, l2'⟩⟩
        refine wpAnyB_take (i := 0) (oi := _) (v := ?vv1) (fun w' => w'.cell? ⟨gT, 1, none⟩ = some (.slice (some ⟨g5, 0, none⟩) n c5)) rfl (by kernel_rfl) (by kernel_rfl) (by kernel_rfl) (by kernel_rfl) (by rfl) (fun _ h => h.1) (.inl fun _ h => h.1) (fun _ _ _ h => h) (.inl ⟨by rfl, ?hy1⟩) hSS ?_
        case hy1 =>
          intro w' hSw
          try dsimp only at hSw
          go_simp
          all_goals with_reducible rfl
        try simp only [Act.put, List.setIfInBounds_toArray]
        refine wpAnyB_take (i := 1) (oi := _) (v := ?vv2) (fun w' => w'.cell? ⟨gT, 1, none⟩ = some (.slice (some ⟨g5, 0, none⟩) n c5)) rfl (by kernel_rfl) (by kernel_rfl) (by kernel_rfl) (by kernel_rfl) (by rfl) (fun _ h => h.1) (.inl fun _ h => h.1) (fun _ _ _ h => h) (.inl ⟨by rfl, ?hy2⟩) hSS ?_
        case hy2 =>
          intro w' hSw
          try dsimp only at hSw
          go_simp
          all_goals with_reducible rfl
        try simp only [Act.put]
        refine wpAnyB_take (i := 2) (oi := _) (v := ?vv3) (fun w' => w'.cell? ⟨gT, 1, none⟩ = some (.slice (some ⟨g5, 0, none⟩) n c5)) rfl (by kernel_rfl) (by kernel_rfl) (by kernel_rfl) (by kernel_rfl) (by rfl) (fun _ h => h.1) (.inl fun _ h => h.1) (fun _ _ _ h => h) (.inl ⟨by rfl, ?hy3⟩) hSS ?_
        case hy3 =>
          intro w' hSw
          try dsimp only at hSw
          go_simp
          all_goals with_reducible rfl
        try simp only [Act.put]
        refine wpAnyB_take (i := 3) (oi := _) (v := ?vv4) (fun w' => w'.cell? ⟨gT, 1, none⟩ = some (.slice (some ⟨g5, 0, none⟩) n c5)) rfl (by kernel_rfl) (by kernel_rfl) (by kernel_rfl) (by kernel_rfl) (by rfl) (fun _ h => h.1) (.inl fun _ h => h.1) (fun _ _ _ h => h) (.inl ⟨by rfl, ?hy4⟩) hSS ?_
        case hy4 =>
          intro w' hSw
          try dsimp only at hSw
          go_simp
          all_goals with_reducible rfl
        try simp only [Act.put]
        refine wpAnyB_take (i := 4) (oi := _) (v := ?vv5) (fun w' => w'.cell? ⟨gT, 1, none⟩ = some (.slice (some ⟨g5, 0, none⟩) n c5)) rfl (by kernel_rfl) (by kernel_rfl) (by kernel_rfl) (by kernel_rfl) (by rfl) (fun _ h => h.1) (.inl fun _ h => h.1) (fun _ _ _ h => h) (.inl ⟨by rfl, ?hy5⟩) hSS ?_
        case hy5 =>
          intro w' hSw
          try dsimp only at hSw
          go_simp
          all_goals with_reducible rfl
        try simp only [Act.put]
        refine wpAnyB_take (i := 5) (oi := _) (v := ?vv6) (fun w' => w'.cell? ⟨gT, 1, none⟩ = some (.slice (some ⟨g5, 0, none⟩) n c5)) rfl (by kernel_rfl) (by kernel_rfl) (by kernel_rfl) (by kernel_rfl) (by rfl) (fun _ h => h.1) (.inl fun _ h => h.1) (fun _ _ _ h => h) (.inl ⟨by rfl, ?hy6⟩) hSS ?_
        case hy6 =>
          intro w' hSw
          try dsimp only at hSw
          go_simp
          all_goals with_reducible rfl
        try simp only [Act.put]
        refine wpAnyB_take (i := 6) (oi := _) (v := ?vv7) (fun w' => w'.cell? ⟨gT, 1, none⟩ = some (.slice (some ⟨g5, 0, none⟩) n c5)) rfl (by kernel_rfl) (by kernel_rfl) (by kernel_rfl) (by kernel_rfl) (by rfl) (fun _ h => h.1) (.inl fun _ h => h.1) (fun _ _ _ h => h) (.inl ⟨by rfl, ?hy7⟩) hSS ?_
        case hy7 =>
          intro w' hSw
          try dsimp only at hSw
          go_simp
          all_goals with_reducible rfl
        try simp only [Act.put]
        refine wpAnyB_take (i := 7) (oi := _) (v := ?vv8) (fun w' => w'.cell? ⟨gT, 1, none⟩ = some (.slice (some ⟨g5, 0, none⟩) n c5)) rfl (by kernel_rfl) (by kernel_rfl) (by kernel_rfl) (by kernel_rfl) (by rfl) (fun _ h => h.1) (.inl fun _ h => h.1) (fun _ _ _ h => h) (.inl ⟨by rfl, ?hy8⟩) hSS ?_
        case hy8 =>
          intro w' hSw
          try dsimp only at hSw
          go_simp
          all_goals with_reducible rfl
        try simp only [Act.put]
        refine wpAnyB_take (i := 8) (oi := _) (v := ?vv9) (fun w' => w'.cell? ⟨gT, 1, none⟩ = some (.slice (some ⟨g5, 0, none⟩) n c5)) rfl (by kernel_rfl) (by kernel_rfl) (by kernel_rfl) (by kernel_rfl) (by rfl) (fun _ h => h.1) (.inl fun _ h => h.1) (fun _ _ _ h => h) (.inl ⟨by rfl, ?hy9⟩) hSS ?_
        case hy9 =>
          intro w' hSw
          try dsimp only at hSw
          go_simp
          all_goals with_reducible rfl
        try simp only [Act.put]
        refine wpAnyB_take (i := 9) (oi := _) (v := ?vv10) (fun w' => w'.cell? ⟨gT, 1, none⟩ = some (.slice (some ⟨g5, 0, none⟩) n c5)) rfl (by kernel_rfl) (by kernel_rfl) (by kernel_rfl) (by kernel_rfl) (by rfl) (fun _ h => h.1) (.inl fun _ h => h.1) (fun _ _ _ h => h) (.inl ⟨by rfl, ?hy10⟩) hSS ?_
        case hy10 =>
          intro w' hSw
          try dsimp only at hSw
          go_simp
          all_goals with_reducible rfl
        try simp only [Act.put]
        refine wpAnyB_take (i := 10) (oi := _) (v := ?vv11) (fun w' => w'.cell? ⟨gT, 1, none⟩ = some (.slice (some ⟨g5, 0, none⟩) n c5)) rfl (by kernel_rfl) (by kernel_rfl) (by kernel_rfl) (by kernel_rfl) (by rfl) (fun _ h => h.1) (.inl fun _ h => h.1) (fun _ _ _ h => h) (.inl ⟨by rfl, ?hy11⟩) hSS ?_
        case hy11 =>
          intro w' hSw
          try dsimp only at hSw
          go_simp
          all_goals with_reducible rfl
        try simp only [Act.put]
        refine wpAnyB_take (i := 11) (oi := _) (v := ?vv12) (fun w' => w'.cell? ⟨gT, 1, none⟩ = some (.slice (some ⟨g5, 0, none⟩) n c5)) rfl (by kernel_rfl) (by kernel_rfl) (by kernel_rfl) (by kernel_rfl) (by rfl) (fun _ h => h.1) (.inl fun _ h => h.1) (fun _ _ _ h => h) (.inl ⟨by rfl, ?hy12⟩) hSS ?_
        case hy12 =>
          intro w' hSw
          try dsimp only at hSw
          go_simp
          all_goals with_reducible rfl
        try simp only [Act.put]
        refine wpAnyB_take (i := 12) (oi := _) (v := ?vv13) (fun w' => w'.cell? ⟨gT, 1, none⟩ = some (.slice (some ⟨g5, 0, none⟩) n c5) ∧ w'.cell? ⟨g5, j * 3, none⟩ = some (.int .i64 x.kind) ∧ w'.cell? ⟨g5, j * 3 + 1, none⟩ = some (.int .i64 x.at_) ∧ w'.cell? ⟨g5, j * 3 + 2, none⟩ = some (.string x.word) ∧ w'.cell? ⟨g5, (j + 1) * 3, none⟩ = some (.int .i64 y.kind) ∧ w'.cell? ⟨g5, (j + 1) * 3 + 1, none⟩ = some (.int .i64 y.at_) ∧ w'.cell? ⟨g5, (j + 1) * 3 + 2, none⟩ = some (.string y.word)) rfl (by kernel_rfl) (by kernel_rfl) (by kernel_rfl) (by kernel_rfl) (by rfl) (fun _ h => ⟨h.1, h.2 rfl⟩) (.inr (by kernel_rfl)) (fun _ _ _ h => h) (.inl ⟨by rfl, ?hy13⟩) hSS ?_
        case hy13 =>
          intro w' hSw
          try dsimp only at hSw
          go_simp
          all_goals with_reducible rfl
        try simp only [Act.put]
        refine wpAnyB_take (i := 13) (oi := _) (v := ?vv14) (fun w' => w'.cell? ⟨gT, 1, none⟩ = some (.slice (some ⟨g5, 0, none⟩) n c5)) rfl (by kernel_rfl) (by kernel_rfl) (by kernel_rfl) (by kernel_rfl) (by rfl) (fun _ h => h.1) (.inl fun _ h => h.1) (fun _ _ _ h => h) (.inl ⟨by rfl, ?hy14⟩) hSS ?_
        case hy14 =>
          intro w' hSw
          try dsimp only at hSw
          go_simp
          all_goals with_reducible rfl
        try simp only [Act.put]
        refine wpAnyB_take (i := 14) (oi := _) (v := ?vv15) (fun w' => w'.cell? ⟨gT, 1, none⟩ = some (.slice (some ⟨g5, 0, none⟩) n c5)) rfl (by kernel_rfl) (by kernel_rfl) (by kernel_rfl) (by kernel_rfl) (by rfl) (fun _ h => h.1) (.inl fun _ h => h.1) (fun _ _ _ h => h) (.inl ⟨by rfl, ?hy15⟩) hSS ?_
        case hy15 =>
          intro w' hSw
          try dsimp only at hSw
          go_simp
          all_goals with_reducible rfl
        try simp only [Act.put]
        refine wpAnyB_take (i := 15) (oi := _) (v := ?vv16) (fun w' => w'.cell? ⟨gT, 1, none⟩ = some (.slice (some ⟨g5, 0, none⟩) n c5)) rfl (by kernel_rfl) (by kernel_rfl) (by kernel_rfl) (by kernel_rfl) (by rfl) (fun _ h => h.1) (.inl fun _ h => h.1) (fun _ _ _ h => h) (.inl ⟨by rfl, ?hy16⟩) hSS ?_
        case hy16 =>
          intro w' hSw
          try dsimp only at hSw
          go_simp
          all_goals with_reducible rfl
        try simp only [Act.put]
        refine wpAnyB_take (i := 16) (oi := _) (v := ?vv17) (fun w' => w'.cell? ⟨gT, 1, none⟩ = some (.slice (some ⟨g5, 0, none⟩) n c5)) rfl (by kernel_rfl) (by kernel_rfl) (by kernel_rfl) (by kernel_rfl) (by rfl) (fun _ h => h.1) (.inl fun _ h => h.1) (fun _ _ _ h => h) (.inl ⟨by rfl, ?hy17⟩) hSS ?_
        case hy17 =>
          intro w' hSw
          try dsimp only at hSw
          go_simp
          all_goals with_reducible rfl
        try simp only [Act.put]
        refine wpAnyB_take (i := 17) (oi := _) (v := ?vv18) (fun w' => w'.cell? ⟨gT, 1, none⟩ = some (.slice (some ⟨g5, 0, none⟩) n c5) ∧ w'.cell? ⟨g5, j * 3, none⟩ = some (.int .i64 x.kind) ∧ w'.cell? ⟨g5, j * 3 + 1, none⟩ = some (.int .i64 x.at_) ∧ w'.cell? ⟨g5, j * 3 + 2, none⟩ = some (.string x.word) ∧ w'.cell? ⟨g5, (j + 1) * 3, none⟩ = some (.int .i64 y.kind) ∧ w'.cell? ⟨g5, (j + 1) * 3 + 1, none⟩ = some (.int .i64 y.at_) ∧ w'.cell? ⟨g5, (j + 1) * 3 + 2, none⟩ = some (.string y.word)) rfl (by kernel_rfl) (by kernel_rfl) (by kernel_rfl) (by kernel_rfl) (by rfl) (fun _ h => ⟨h.1, h.2 rfl⟩) (.inr (by kernel_rfl)) (fun _ _ _ h => h) (.inl ⟨by rfl, ?hy18⟩) hSS ?_
        case hy18 =>
          intro w' hSw
          try dsimp only at hSw
          go_simp
          all_goals with_reducible rfl
        try simp only [Act.put]
        refine wpAnyB_take (i := 18) (oi := _) (v := ?vv19) (fun w' => w'.cell? ⟨gT, 1, none⟩ = some (.slice (some ⟨g5, 0, none⟩) n c5)) rfl (by kernel_rfl) (by kernel_rfl) (by kernel_rfl) (by kernel_rfl) (by rfl) (fun _ h => h.1) (.inl fun _ h => h.1) (fun _ _ _ h => h) (.inl ⟨by rfl, ?hy19⟩) hSS ?_
        case hy19 =>
          intro w' hSw
          try dsimp only at hSw
          go_simp
          all_goals with_reducible rfl
        try simp only [Act.put]
        refine wpAnyB_one (i := 19) true rfl (by kernel_rfl) (by kernel_rfl) ?_
        intro KK hKK
        clear i3
        have fr := fun (o : Nat) => G7.out.free o
        have y0 := fr (j * 3)
        have y1 := fr (j * 3 + 1)
        have y2 := fr (j * 3 + 2)
        clear fr
        go_simp
        clear y0 y1 y2
        have G8 : Has (((w7.setCell ⟨g5, j * 3, none⟩ (.int .i64 y.kind)).setCell ⟨g5, j * 3 + 1, none⟩ (.int .i64 y.at_)).setCell ⟨g5, j * 3 + 2, none⟩ (.string y.word)) g5 26 (wksCells (L.set j y) ++ rest) := by
          have := ((G7.out.set (j * 3) (.int .i64 y.kind)).set (j * 3 + 1) (.int .i64 y.at_)).set (j * 3 + 2) (.string y.word)
          rw [wks_set _ _ _ _ (by simp only [HLn.out]; omega)] at this
          exact this
        have T8 : Has (((w7.setCell ⟨g5, j * 3, none⟩ (.int .i64 y.kind)).setCell ⟨g5, j * 3 + 1, none⟩ (.int .i64 y.at_)).setCell ⟨g5, j * 3 + 2, none⟩ (.string y.word)) gT 24 [.int .i64 p, .slice (some ⟨g5, 0, none⟩) n c5] := ((T7.out.far hne _ _).far hne _ _).far hne _ _
        have B8 : Below w4.heap.size w4 (((w7.setCell ⟨g5, j * 3, none⟩ (.int .i64 y.kind)).setCell ⟨g5, j * 3 + 1, none⟩ (.int .i64 y.at_)).setCell ⟨g5, j * 3 + 2, none⟩ (.string y.word)) := ((B7.setCell (by simpa using hg5) _).setCell (by simpa using hg5) _).setCell (by simpa using hg5) _
        generalize (((w7.setCell ⟨g5, j * 3, none⟩ (.int .i64 y.kind)).setCell ⟨g5, j * 3 + 1, none⟩ (.int .i64 y.at_)).setCell ⟨g5, j * 3 + 2, none⟩ (.string y.word)) = w8 at *
        refine hKK.out _ _ ⟨T8.two.2, fun hh => by cases hh⟩ ?_
        clear hKK KK
        try simp only [Act.put, List.setIfInBounds_toArray, List.set_cons_zero, List.set_cons_succ]
        refine wpAnyB_one (i := 20) true rfl (by kernel_rfl) (by kernel_rfl) ?_
        intro KK hKK
        go_simp
        refine hKK.out _ _ ⟨T8.two.2, fun hh => by cases hh⟩ ?_
        clear hKK KK
        try simp only [Act.put, List.setIfInBounds_toArray, List.set_cons_zero, List.set_cons_succ]
        refine wpAnyB_one (i := 21) true rfl (by kernel_rfl) (by kernel_rfl) ?_
        intro KK hKK
        have hM : (L.set j y)[j + 1]? = some y := (List.getElem?_set_ne (Nat.ne_of_lt (Nat.lt_succ_self j))).trans HY'.out
        have m0 := (wk_cells G8 hM).1
        have m1 := (wk_cells G8 hM).2.1
        have m2 := (wk_cells G8 hM).2.2
        clear hM
        have q8 := G8.lt
        have fr := fun (o : Nat) => G8.free o
        have y0 := fr ((j + 1) * 3)
        have y1 := fr ((j + 1) * 3 + 1)
        have y2 := fr ((j + 1) * 3 + 2)
        clear fr
        go_simp
        clear y0 y1 y2
        have G9 : Has (((w8.setCell ⟨g5, (j + 1) * 3, none⟩ (.int .i64 x.kind)).setCell ⟨g5, (j + 1) * 3 + 1, none⟩ (.int .i64 x.at_)).setCell ⟨g5, (j + 1) * 3 + 2, none⟩ (.string x.word)) g5 26 (wksCells ((L.set j y).set (j + 1) x) ++ rest) := by
          have := ((G8.set ((j + 1) * 3) (.int .i64 x.kind)).set ((j + 1) * 3 + 1) (.int .i64 x.at_)).set ((j + 1) * 3 + 2) (.string x.word)
          rw [wks_set _ _ _ _ (by simp only [List.length_set, HLn.out]; omega)] at this
          exact this
        have T9 : Has (((w8.setCell ⟨g5, (j + 1) * 3, none⟩ (.int .i64 x.kind)).setCell ⟨g5, (j + 1) * 3 + 1, none⟩ (.int .i64 x.at_)).setCell ⟨g5, (j + 1) * 3 + 2, none⟩ (.string x.word)) gT 24 [.int .i64 p, .slice (some ⟨g5, 0, none⟩) n c5] := ((T8.far hne _ _).far hne _ _).far hne _ _
        have B9 : Below w4.heap.size w4 (((w8.setCell ⟨g5, (j + 1) * 3, none⟩ (.int .i64 x.kind)).setCell ⟨g5, (j + 1) * 3 + 1, none⟩ (.int .i64 x.at_)).setCell ⟨g5, (j + 1) * 3 + 2, none⟩ (.string x.word)) := ((B8.setCell (by simpa using hg5) _).setCell (by simpa using hg5) _).setCell (by simpa using hg5) _
        generalize (((w8.setCell ⟨g5, (j + 1) * 3, none⟩ (.int .i64 x.kind)).setCell ⟨g5, (j + 1) * 3 + 1, none⟩ (.int .i64 x.at_)).setCell ⟨g5, (j + 1) * 3 + 2, none⟩ (.string x.word)) = w9 at *
        refine hKK.out _ _ ⟨T9.two.2, fun hh => by cases hh⟩ ?_
        clear hKK KK
        try simp only [Act.put, List.setIfInBounds_toArray, List.set_cons_zero, List.set_cons_succ]
        refine wpAnyB_done (by kernel_rfl) (NoPanic.normal ?_) _
        go_wp2
        go_roundw
        case rel =>
          obtain ⟨l1', l2'', hs1, hs2'⟩ := two_split HX.out HY'.out
          refine ⟨i + 1, (L.set j y).set (j + 1) x, by omega, by go_num, by rw [List.length_set, List.length_set, HLn.out], fun v hv => ?_, ?_, G9, T9, B9.drew⟩
          · rw [hs2'] at hv
            refine HLm.out v ?_
            rw [hs1]
            simp only [List.mem_append, List.mem_cons] at hv ⊢
            rcases hv with h | h | h | h
            · exact .inl h
            · exact .inr (.inr (.inl h))
            · exact .inr (.inl h)
            · exact .inr (.inr (.inr h))
          · refine Alike.trans ?_ HLa.out
            rw [hs2', hs1]
            exact net_swap l1' l2'' (by rw [touch_symm]; exact HTt.out)
        case measure => first | (simp [intOf]; done) | (simp [intOf]; omega)
    · --EXIT
      have okL := Lib.hid (U.out.sub (by rw [HLn.out]; omega) HLm.out)
      by_cases hi : i < m
      · have hn1 : decide ((1 : Int) < (n : Int)) = false := by simp; omega
        obtain ⟨v0, v1, v2, v3, vq⟩ := HQ4.out _ hB
        have hm0 : m ≠ 0 := by omega
        have hm0' : 0 < m := by omega
        by_cases hc : schk p [⟨k, a, s⟩] = 0
        rotate_left
        · have hcb : (schk p [⟨k, a, s⟩] == 0) = false := by simpa using hc
          have CK := Lib.hid (fun (W : World) (hw : RdW W W.heap.size (some ⟨wo.heap.size, 0, none⟩) [⟨k, a, s⟩]) => check04 p (some ⟨wo.heap.size, 0, none⟩) 1 1 [⟨k, a, s⟩] W (by omega) hw rfl (by simpa using hs2))
          clear hc
          generalize schk p [⟨k, a, s⟩] = eck at *
          go_wp2_with fail
          refine (CK.out _ (rdW_one wo k a s 26)).mono ?_
          rintro e w10 ⟨rfl, hb10⟩
          have hb10' : Below wo.heap.size wo w10 := bvia (by go_grown) hb10
          have B10 : Below w4.heap.size w4 w10 := hB.trans (hb10'.mono hB.size)
          have T10 := HT.out.below hb10' HT.out.lt
          have G10 := HG.out.below hb10' HG.out.lt
          clear v0 v1 v2 v3 vq
          obtain ⟨te0, te1⟩ := T10.two
          have tq1 := T10.lt
          go_wp2_with fail
          refine (netOk NU.out okL.out (some ⟨g5, 0, none⟩) n c5 _ (has_rdW' G10) HLn.out hc5).mono ?_
          rintro e w20 ⟨A20, n20, c20, rfl, r20, l20, m20, o20, hb20⟩
          have b20 : Below w4.heap.size w4 (w20.alloc (.cells #[.int .i64 p, .slice A20 n20 c20] 24)) := B10.trans ((bvia hb20 (by go_grown)).mono B10.size)
          have Y20 : Has (w20.alloc (.cells #[.int .i64 p, .slice A20 n20 c20] 24)) w20.heap.size 24 [.int .i64 p, .slice A20 n20 c20] := Has.new rfl
          have R20 := Lib.hid (r20.up (show Below w20.heap.size w20 (w20.alloc (.cells #[.int .i64 p, .slice A20 n20 c20] 24)) by go_grown)); clear r20 hb20 te0 te1 tq1
          have Y2f := HY.out.below b20 HY.out.lt
          have R2f := Lib.hid (HR.out.up b20)
          obtain ⟨f0, f1⟩ := Y2f.two
          have fq := Y2f.lt
          go_wp2_with fail
          refine (same05 p A2 A20 n2 n20 c2 c20 (netL us) (netL L) _ R2f.out R20.out l2 l20 U.out.net okL.out.net HLa.out.symm).mono ?_
          rintro e w21 ⟨rfl, hb21⟩
          go_wp2_with fail
          refine (AW.out _).mono ?_
          rintro e w22 ⟨rfl, hb22⟩
          go_wp2
          go_ret
          exact ⟨rfl, bvia (bvia (HW4.trans (b20.mono (Nat.le_of_lt q0'))) hb21) hb22⟩
        have HC := Lib.hid hc; clear hc
        go_wp2_with fail
        refine (check04 p (some ⟨wo.heap.size, 0, none⟩) 1 1 [⟨k, a, s⟩] _ (by omega) (rdW_one wo k a s 26) rfl (by simpa using hs2)).mono ?_
        rintro e w10 ⟨rfl, hb10⟩
        rw [HC.out]
        have hb10' : Below wo.heap.size wo w10 := bvia (by go_grown) hb10
        have B10 : Below w4.heap.size w4 w10 := hB.trans (hb10'.mono hB.size)
        have T10 := HT.out.below hb10' HT.out.lt
        have G10 := HG.out.below hb10' HG.out.lt
        clear v0 v1 v2 v3 vq
        --INSERT
        obtain ⟨z, hz⟩ := get_of_lt (l := zs) (k := 0) (by rw [HZL.out]; exact hm0')
        obtain ⟨bz, oz, rfl, hbz, z1⟩ := HZ.out _ z hz
        obtain ⟨hz0, hz1⟩ := HZR.out z (mem_of_get hz)
        have W10 : Below w.heap.size w w10 := HW4.trans (B10.mono (Nat.le_of_lt q0'))
        have z2 : w10.cell? ⟨bz, oz, none⟩ = some (.int .u16 z) := by rw [W10.cell hbz]; exact z1
        have q3 : bz < w10.heap.size := by have := W10.size; omega
        obtain ⟨e0', e1'⟩ := T10.two
        have q4 := T10.lt
        have HT10 := Lib.hid T10
        have HG10 := Lib.hid G10
        clear T10 G10 e0 e1 q1 q2
        have hnz : ((n : Int) + 1 == 0) = false := by simp; omega
        have i1 : IntKind.i64.wrap z = z := IntWalk.i64_in _ (by omega)
        have i2 : IntKind.i64.wrap ((n : Int) + 1) = (n : Int) + 1 := IntWalk.i64_in _ (by omega)
        go_wp2
        have hxc := fun (x : Ext w10) => x.cell
        refine wp_region_ext (by kernel_rfl) (by kernel_rfl) ?_
        repeat (go_big_quiet_step (fail))
        refine wpQuiet_nil ?_
        intro w11 hw'
        have hb11 := ext_below hw'
        clear hw'
        clear hxc i1 i2 hnz z1 z2 hz
        have hj0 := Int.emod_nonneg z (show (n : Int) + 1 ≠ 0 by omega)
        have hj1 := Int.emod_lt_of_pos z (show (0 : Int) < (n : Int) + 1 by omega)
        obtain ⟨j, hjz⟩ := Int.eq_ofNat_of_zero_le hj0
        rw [hjz] at hj1 ⊢
        clear hjz hj0
        have hj : j ≤ n := by omega
        have HT11 := Lib.hid (HT10.out.below hb11 HT10.out.lt)
        have HG11 := Lib.hid (HG10.out.below hb11 HG10.out.lt)
        have B11 : Below w4.heap.size w4 w11 := B10.trans (hb11.mono B10.size)
        have HF := Lib.hid (show ∀ W, Below w11.heap.size w11 W → W.cell? ⟨w.heap.size + 1, 0, none⟩ = some (.int .i64 k) ∧ W.cell? ⟨w.heap.size + 1, 1, none⟩ = some (.int .i64 a) ∧ W.cell? ⟨w.heap.size + 1, 2, none⟩ = some (.string s) ∧ W.cell? ⟨gT, 1, none⟩ = some (.slice (some ⟨g5, 0, none⟩) n c5) from
          fun W hb => by
            obtain ⟨s0, s1, s2, s3, _⟩ := HQ4.out _ (B11.trans (hb.mono B11.size))
            exact ⟨s1, s2, s3, (HT11.out.below hb HT11.out.lt).two.2⟩)
        obtain ⟨u1, u2, u3, u4⟩ := HF.out _ (Below.refl _ _)
        have nz7 : gT ≠ w.heap.size + 1 := by have := (HQ4.out _ (Below.refl _ _)).2.2.2.2; omega
        have j1 : (0 : Int) ≤ (j : Int) := by omega
        have j2 : (j : Int) ≤ (c5 : Int) := by omega
        have j3 : (j : Int) ≤ (n : Int) := by omega
        have j4 : (n : Int) ≤ (c5 : Int) := by omega
        have j5 : j ≤ n := hj
        have j6 : j ≤ c5 := by omega
        have q8 := HT11.out.lt
        clear e0' e1' q3 q4
        go_wp2
        by_cases hcap : c5 = j
        · have hnj : n = j := by omega
          obtain rfl : j = c5 := hcap.symm
          have HNJ := Lib.hid hnj
          clear hnj
          refine wp_region_noPanic ?_
          refine wp_region_B (fun b w' => w'.cell? ⟨w.heap.size + 1, 0, none⟩ = some (.int .i64 k) ∧ w'.cell? ⟨w.heap.size + 1, 1, none⟩ = some (.int .i64 a) ∧ w'.cell? ⟨w.heap.size + 1, 2, none⟩ = some (.string s) ∧ (b = false → w'.cell? ⟨gT, 1, none⟩ = some (.slice (some ⟨g5, 0, none⟩) n j))) 17 (by kernel_rfl) ?_
          have hSSq1a : (fun b w' => w'.cell? ⟨w.heap.size + 1, 0, none⟩ = some (.int .i64 k) ∧ w'.cell? ⟨w.heap.size + 1, 1, none⟩ = some (.int .i64 a) ∧ w'.cell? ⟨w.heap.size + 1, 2, none⟩ = some (.string s) ∧ (b = false → w'.cell? ⟨gT, 1, none⟩ = some (.slice (some ⟨g5, 0, none⟩) n j))) false (w11.drew) := ⟨u1, u2, u3, fun _ => u4⟩
          refine wpAnyB_take (i := 1) (oi := _) (v := ?vvq1a1) (fun w' => w'.cell? ⟨w.heap.size + 1, 0, none⟩ = some (.int .i64 k) ∧ w'.cell? ⟨w.heap.size + 1, 1, none⟩ = some (.int .i64 a) ∧ w'.cell? ⟨w.heap.size + 1, 2, none⟩ = some (.string s)) rfl (by kernel_rfl) (by kernel_rfl) (by kernel_rfl) (by kernel_rfl) (by rfl) (fun _ h => ⟨h.1, h.2.1, h.2.2.1⟩) (.inl fun _ h => ⟨h.1, h.2.1, h.2.2.1⟩) (fun _ _ _ h => h) (.inl ⟨by rfl, ?hyq1a1⟩) hSSq1a ?_
          case hyq1a1 =>
            intro w' hSw
            try dsimp only at hSw
            go_simp
            all_goals with_reducible rfl
          try simp only [Act.put, List.setIfInBounds_toArray]
          refine wpAnyB_take (i := 2) (oi := _) (v := ?vvq1a2) (fun w' => w'.cell? ⟨w.heap.size + 1, 0, none⟩ = some (.int .i64 k) ∧ w'.cell? ⟨w.heap.size + 1, 1, none⟩ = some (.int .i64 a) ∧ w'.cell? ⟨w.heap.size + 1, 2, none⟩ = some (.string s) ∧ w'.cell? ⟨gT, 1, none⟩ = some (.slice (some ⟨g5, 0, none⟩) n j)) rfl (by kernel_rfl) (by kernel_rfl) (by kernel_rfl) (by kernel_rfl) (by rfl) (fun _ h => ⟨h.1, h.2.1, h.2.2.1, h.2.2.2 rfl⟩) (.inr (by kernel_rfl)) (fun _ _ _ h => h) (.inl ⟨by rfl, ?hyq1a2⟩) hSSq1a ?_
          case hyq1a2 =>
            intro w' hSw
            try dsimp only at hSw
            go_simp
            all_goals with_reducible rfl
          try simp only [Act.put]
          refine wpAnyB_take (i := 3) (oi := _) (v := ?vvq1a3) (fun w' => w'.cell? ⟨w.heap.size + 1, 0, none⟩ = some (.int .i64 k) ∧ w'.cell? ⟨w.heap.size + 1, 1, none⟩ = some (.int .i64 a) ∧ w'.cell? ⟨w.heap.size + 1, 2, none⟩ = some (.string s)) rfl (by kernel_rfl) (by kernel_rfl) (by kernel_rfl) (by kernel_rfl) (by rfl) (fun _ h => ⟨h.1, h.2.1, h.2.2.1⟩) (.inl fun _ h => ⟨h.1, h.2.1, h.2.2.1⟩) (fun _ _ _ h => h) (.inl ⟨by rfl, ?hyq1a3⟩) hSSq1a ?_
          case hyq1a3 =>
            intro w' hSw
            try dsimp only at hSw
            go_simp
            all_goals with_reducible rfl
          try simp only [Act.put]
          refine wpAnyB_take (i := 4) (oi := _) (v := ?vvq1a4) (fun w' => w'.cell? ⟨w.heap.size + 1, 0, none⟩ = some (.int .i64 k) ∧ w'.cell? ⟨w.heap.size + 1, 1, none⟩ = some (.int .i64 a) ∧ w'.cell? ⟨w.heap.size + 1, 2, none⟩ = some (.string s)) rfl (by kernel_rfl) (by kernel_rfl) (by kernel_rfl) (by kernel_rfl) (by rfl) (fun _ h => ⟨h.1, h.2.1, h.2.2.1⟩) (.inl fun _ h => ⟨h.1, h.2.1, h.2.2.1⟩) (fun _ _ _ h => h) (.inl ⟨by rfl, ?hyq1a4⟩) hSSq1a ?_
          case hyq1a4 =>
            intro w' hSw
            try dsimp only at hSw
            go_simp
            all_goals with_reducible rfl
          try simp only [Act.put]
          refine wpAnyB_take (i := 6) (oi := _) (v := ?vvq1a5) (fun w' => w'.cell? ⟨w.heap.size + 1, 0, none⟩ = some (.int .i64 k) ∧ w'.cell? ⟨w.heap.size + 1, 1, none⟩ = some (.int .i64 a) ∧ w'.cell? ⟨w.heap.size + 1, 2, none⟩ = some (.string s)) rfl (by kernel_rfl) (by kernel_rfl) (by kernel_rfl) (by kernel_rfl) (by rfl) (fun _ h => ⟨h.1, h.2.1, h.2.2.1⟩) (.inl fun _ h => ⟨h.1, h.2.1, h.2.2.1⟩) (fun _ _ _ h => h) (.inl ⟨by rfl, ?hyq1a5⟩) hSSq1a ?_
          case hyq1a5 =>
            intro w' hSw
            try dsimp only at hSw
            go_simp
            all_goals with_reducible rfl
          try simp only [Act.put]
          refine wpAnyB_take (i := 7) (oi := _) (v := ?vvq1a6) (fun w' => w'.cell? ⟨w.heap.size + 1, 0, none⟩ = some (.int .i64 k) ∧ w'.cell? ⟨w.heap.size + 1, 1, none⟩ = some (.int .i64 a) ∧ w'.cell? ⟨w.heap.size + 1, 2, none⟩ = some (.string s)) rfl (by kernel_rfl) (by kernel_rfl) (by kernel_rfl) (by kernel_rfl) (by rfl) (fun _ h => ⟨h.1, h.2.1, h.2.2.1⟩) (.inl fun _ h => ⟨h.1, h.2.1, h.2.2.1⟩) (fun _ _ _ h => h) (.inl ⟨by rfl, ?hyq1a6⟩) hSSq1a ?_
          case hyq1a6 =>
            intro w' hSw
            try dsimp only at hSw
            go_simp
            all_goals with_reducible rfl
          try simp only [Act.put]
          refine wpAnyB_take (i := 11) (oi := _) (v := ?vvq1a7) (fun w' => w'.cell? ⟨w.heap.size + 1, 0, none⟩ = some (.int .i64 k) ∧ w'.cell? ⟨w.heap.size + 1, 1, none⟩ = some (.int .i64 a) ∧ w'.cell? ⟨w.heap.size + 1, 2, none⟩ = some (.string s)) rfl (by kernel_rfl) (by kernel_rfl) (by kernel_rfl) (by kernel_rfl) (by rfl) (fun _ h => ⟨h.1, h.2.1, h.2.2.1⟩) (.inl fun _ h => ⟨h.1, h.2.1, h.2.2.1⟩) (fun _ _ _ h => h) (.inl ⟨by rfl, ?hyq1a7⟩) hSSq1a ?_
          case hyq1a7 =>
            intro w' hSw
            try dsimp only at hSw
            go_simp
            all_goals with_reducible rfl
          try simp only [Act.put]
          refine wpAnyB_take (i := 12) (oi := _) (v := ?vvq1a8) (fun w' => w'.cell? ⟨w.heap.size + 1, 0, none⟩ = some (.int .i64 k) ∧ w'.cell? ⟨w.heap.size + 1, 1, none⟩ = some (.int .i64 a) ∧ w'.cell? ⟨w.heap.size + 1, 2, none⟩ = some (.string s) ∧ w'.cell? ⟨gT, 1, none⟩ = some (.slice (some ⟨g5, 0, none⟩) n j)) rfl (by kernel_rfl) (by kernel_rfl) (by kernel_rfl) (by kernel_rfl) (by rfl) (fun _ h => ⟨h.1, h.2.1, h.2.2.1, h.2.2.2 rfl⟩) (.inr (by kernel_rfl)) (fun _ _ _ h => h) (.inl ⟨by rfl, ?hyq1a8⟩) hSSq1a ?_
          case hyq1a8 =>
            intro w' hSw
            try dsimp only at hSw
            go_simp
            all_goals with_reducible rfl
          try simp only [Act.put]
          refine wpAnyB_take (i := 13) (oi := _) (v := ?vvq1a9) (fun w' => w'.cell? ⟨w.heap.size + 1, 0, none⟩ = some (.int .i64 k) ∧ w'.cell? ⟨w.heap.size + 1, 1, none⟩ = some (.int .i64 a) ∧ w'.cell? ⟨w.heap.size + 1, 2, none⟩ = some (.string s)) rfl (by kernel_rfl) (by kernel_rfl) (by kernel_rfl) (by kernel_rfl) (by rfl) (fun _ h => ⟨h.1, h.2.1, h.2.2.1⟩) (.inl fun _ h => ⟨h.1, h.2.1, h.2.2.1⟩) (fun _ _ _ h => h) (.inl ⟨by rfl, ?hyq1a9⟩) hSSq1a ?_
          case hyq1a9 =>
            intro w' hSw
            try dsimp only at hSw
            go_simp
            all_goals with_reducible rfl
          try simp only [Act.put]
          refine wpAnyB_take (i := 14) (oi := _) (v := ?vvq1a10) (fun w' => w'.cell? ⟨w.heap.size + 1, 0, none⟩ = some (.int .i64 k) ∧ w'.cell? ⟨w.heap.size + 1, 1, none⟩ = some (.int .i64 a) ∧ w'.cell? ⟨w.heap.size + 1, 2, none⟩ = some (.string s)) rfl (by kernel_rfl) (by kernel_rfl) (by kernel_rfl) (by kernel_rfl) (by rfl) (fun _ h => ⟨h.1, h.2.1, h.2.2.1⟩) (.inl fun _ h => ⟨h.1, h.2.1, h.2.2.1⟩) (fun _ _ _ h => h) (.inl ⟨by rfl, ?hyq1a10⟩) hSSq1a ?_
          case hyq1a10 =>
            intro w' hSw
            try dsimp only at hSw
            go_simp
            all_goals with_reducible rfl
          try simp only [Act.put]
          refine wpAnyB_one (i := 0) false rfl (by kernel_rfl) (by kernel_rfl) ?_
          intro KK hKK
          go_simp
          have P0 : Below w11.heap.size w11 (w11.alloc (.cells #[] 26)) := by go_grown
          refine hKK.out _ _ ⟨(HF.out _ P0).1, (HF.out _ P0).2.1, (HF.out _ P0).2.2.1, fun _ => (HF.out _ P0).2.2.2⟩ ?_
          clear hKK KK
          try simp only [Act.put, List.setIfInBounds_toArray, List.set_cons_zero, List.set_cons_succ]
          refine wpAnyB_one (i := 5) false rfl (by kernel_rfl) (by kernel_rfl) ?_
          intro KK hKK
          refine step_appW rfl (.tmp 137) (.tmp 141) rfl w11.heap.size (.slice (some ⟨w11.heap.size, 0, none⟩) 0 0) 0 [] rfl (own_lit0 (Nat.le_refl _)) (some ⟨g5, 0, none⟩) j j (L.take j) rfl ((rdW_take (has_rdW' (HG11.out.below P0 HG11.out.lt)) j)) (by rw [List.length_take, HLn.out]; omega) (by omega) (by simp) ?_
          intro A12 c12 w12 ho12 hg12
          rw [Nat.zero_add] at ho12 ⊢
          have P1 : Below w11.heap.size w11 w12 := P0.drew.grown hg12 (by simp) (fun kk hk => by simp [Value.ownBlock] at hk; omega)
          refine hKK.out _ _ ⟨(HF.out _ P1).1, (HF.out _ P1).2.1, (HF.out _ P1).2.2.1, fun _ => (HF.out _ P1).2.2.2⟩ ?_
          clear hKK KK
          try simp only [Act.put, List.setIfInBounds_toArray]
          refine wpAnyB_one (i := 8) false rfl (by kernel_rfl) (by kernel_rfl) ?_
          intro KK hKK
          go_simp
          go_at_call 21
          refine (undoing28 k a s _ hs2).mono ?_
          rintro e w13 ⟨rfl, hb13⟩
          have P2 : Below w11.heap.size w11 w13 := P1.trans ((bvia (by go_grown) hb13).mono P1.size)
          have ho13 := own_below ho12 (bvia (by go_grown) hb13)
          refine hKK.out _ _ ⟨(HF.out _ P2).1, (HF.out _ P2).2.1, (HF.out _ P2).2.2.1, fun _ => (HF.out _ P2).2.2.2⟩ ?_
          clear hKK KK
          try simp only [Act.put, List.setIfInBounds_toArray, List.set_cons_zero, List.set_cons_succ]
          refine wpAnyB_one (i := 9) false rfl (by kernel_rfl) (by kernel_rfl) ?_
          intro KK hKK
          go_simp
          have P3 : Below w11.heap.size w11 (w13.alloc (.cells #[.int .i64 k, .int .i64 a, .string s, .int .i64 k, .int .i64 a, .string (invW s)] 26)) := P2.trans ((show Below w13.heap.size w13 _ by go_grown).mono P2.size)
          refine hKK.out _ _ ⟨(HF.out _ P3).1, (HF.out _ P3).2.1, (HF.out _ P3).2.2.1, fun _ => (HF.out _ P3).2.2.2⟩ ?_
          clear hKK KK
          try simp only [Act.put, List.setIfInBounds_toArray, List.set_cons_zero, List.set_cons_succ]
          refine wpAnyB_one (i := 10) false rfl (by kernel_rfl) (by kernel_rfl) ?_
          intro KK hKK
          refine step_appW rfl (.tmp 142) (.tmp 146) rfl w11.heap.size (.slice A12 j c12) j _ rfl (ho13.alloc _) (some ⟨w13.heap.size, 0, none⟩) 2 2 [⟨k, a, s⟩, undoW ⟨k, a, s⟩] rfl (has_rdW (Has.new rfl)) rfl (by omega) P3.size ?_
          intro A14 c14 w14 ho14 hg14
          have P4 : Below w11.heap.size w11 w14 := P3.grown hg14 P3.size (fun kk hk => (ho12.lt kk hk).1)
          refine hKK.out _ _ ⟨(HF.out _ P4).1, (HF.out _ P4).2.1, (HF.out _ P4).2.2.1, fun _ => (HF.out _ P4).2.2.2⟩ ?_
          clear hKK KK
          try simp only [Act.put, List.setIfInBounds_toArray]
          refine wpAnyB_one (i := 15) false rfl (by kernel_rfl) (by kernel_rfl) ?_
          intro KK hKK
          refine step_appW rfl (.tmp 147) (.tmp 151) rfl w11.heap.size (.slice A14 (j + 2) c14) (j + 2) _ rfl ho14 _ 0 _ [] rfl (RdW.nil _ _ _) rfl (by omega) P4.size ?_
          intro A15 c15 w15 ho15 hg15
          have P5 : Below w11.heap.size w11 w15 := P4.grown hg15 P4.size (fun kk hk => (ho14.lt kk hk).1)
          obtain ⟨nn, hnn⟩ : ∃ nn, nn = j + 2 + 0 := ⟨_, rfl⟩
          rw [← hnn] at ho15 ⊢
          have HNN := Lib.hid hnn
          clear hnn
          have T15 := HT11.out.below P5 HT11.out.lt
          refine hKK.out _ _ ⟨(HF.out _ P5).1, (HF.out _ P5).2.1, (HF.out _ P5).2.2.1, fun _ => (HF.out _ P5).2.2.2⟩ ?_
          clear hKK KK
          try simp only [Act.put]
          refine wpAnyB_one (i := 16) false rfl (by kernel_rfl) (by kernel_rfl) ?_
          intro KK hKK
          go_simp
          refine hKK.out _ _ ⟨(HF.out _ P5).1, (HF.out _ P5).2.1, (HF.out _ P5).2.2.1, fun _ => (HF.out _ P5).2.2.2⟩ ?_
          clear hKK KK
          try simp only [Act.put, List.setIfInBounds_toArray, List.set_cons_zero, List.set_cons_succ]
          refine wpAnyB_one (i := 17) true rfl (by kernel_rfl) (by kernel_rfl) ?_
          intro KK hKK
          have y0 := T15.free 1
          have y1 := T15.lt
          have y2 := T15.two.2
          go_simp
          refine hKK.out _ _ ⟨(World.cell?_setCell_far _ _ _ _ nz7).trans (HF.out _ P5).1, (World.cell?_setCell_far _ _ _ _ nz7).trans (HF.out _ P5).2.1, (World.cell?_setCell_far _ _ _ _ nz7).trans (HF.out _ P5).2.2.1, fun hh => by cases hh⟩ ?_
          clear hKK KK
          try simp only [Act.put, List.setIfInBounds_toArray, List.set_cons_zero, List.set_cons_succ]
          refine wpAnyB_done (by kernel_rfl) (NoPanic.normal ?_) _
          have T16 := T15.set 1 (.slice A15 nn c15)
          have O16 := ownsRow_setCell_below ho15 (a := ⟨gT, 1, none⟩) (by simpa using HT11.out.lt) (.slice A15 nn c15)
          have hcc := own_caps O16
          have B16 : Below w4.heap.size w4 (w15.setCell ⟨gT, 1, none⟩ (.slice A15 nn c15)) := (B11.trans (P5.mono B11.size)).setCell (by simpa using hgT) _
          have okW := schk_zero HC.out
          have okW2 := okW.undo
          have okN := Lib.hid (okL.out.put okW (w := ⟨k, a, s⟩) (j := j) (by rw [HLn.out]; omega))
          have eqL : [] ++ L.take j ++ [(⟨k, a, s⟩ : Wk), undoW ⟨k, a, s⟩] ++ [] = L.take j ++ ⟨k, a, s⟩ :: undoW ⟨k, a, s⟩ :: L.drop j := by rw [List.drop_of_length_le (by rw [HLn.out, HNJ.out]; exact Nat.le_refl _)]; simp
          rw [eqL] at O16
          have lN : (L.take j ++ ⟨k, a, s⟩ :: undoW ⟨k, a, s⟩ :: L.drop j).length = nn := by rw [HNN.out]; simp; have := HLn.out; have := HNJ.out; omega
          have alN : Alike (netL (L.take j ++ ⟨k, a, s⟩ :: undoW ⟨k, a, s⟩ :: L.drop j)) (netL us) := by
            refine (net_pair (L.take j) (L.drop j) (x := ⟨k, a, s⟩) (okW.back _ (by simp))).trans ?_
            rw [List.take_append_drop]; exact HLa.out
          have HO16 := Lib.hid O16; clear O16 ho15
          clear eqL y0 y1 y2 T15
          generalize w15.setCell ⟨gT, 1, none⟩ (.slice A15 nn c15) = w16 at *
          obtain ⟨te0, te1⟩ := T16.two
          have tq1 := T16.lt
          go_wp2_with fail
          refine (netOk NU.out okN.out A15 nn c15 _ (own_rdW HO16.out) lN hcc.1).mono ?_
          rintro e w20 ⟨A20, n20, c20, rfl, r20, l20, m20, o20, hb20⟩
          have b20 : Below w4.heap.size w4 (w20.alloc (.cells #[.int .i64 p, .slice A20 n20 c20] 24)) := B16.trans ((bvia hb20 (by go_grown)).mono B16.size)
          have Y20 : Has (w20.alloc (.cells #[.int .i64 p, .slice A20 n20 c20] 24)) w20.heap.size 24 [.int .i64 p, .slice A20 n20 c20] := Has.new rfl
          have R20 := Lib.hid (r20.up (show Below w20.heap.size w20 (w20.alloc (.cells #[.int .i64 p, .slice A20 n20 c20] 24)) by go_grown)); clear r20 hb20 te0 te1 tq1
          have Y2f := HY.out.below b20 HY.out.lt
          have R2f := Lib.hid (HR.out.up b20)
          obtain ⟨f0, f1⟩ := Y2f.two
          have fq := Y2f.lt
          go_wp2_with fail
          refine (same05 p A2 A20 n2 n20 c2 c20 (netL us) (netL (L.take j ++ ⟨k, a, s⟩ :: undoW ⟨k, a, s⟩ :: L.drop j)) _ R2f.out R20.out l2 l20 U.out.net okN.out.net alN.symm).mono ?_
          rintro e w21 ⟨rfl, hb21⟩
          go_wp2_with fail
          refine (AW.out _).mono ?_
          rintro e w22 ⟨rfl, hb22⟩
          go_wp2
          go_ret
          exact ⟨rfl, bvia (bvia (HW4.trans (b20.mono (Nat.le_of_lt q0'))) hb21) hb22⟩
        · have hcap' : decide (c5 = j) = false := by simpa using hcap
          have hcg : j < c5 := by omega
          refine wp_region_noPanic ?_
          refine wp_region_B (fun b w' => w'.cell? ⟨w.heap.size + 1, 0, none⟩ = some (.int .i64 k) ∧ w'.cell? ⟨w.heap.size + 1, 1, none⟩ = some (.int .i64 a) ∧ w'.cell? ⟨w.heap.size + 1, 2, none⟩ = some (.string s) ∧ (b = false → w'.cell? ⟨gT, 1, none⟩ = some (.slice (some ⟨g5, 0, none⟩) n c5))) 17 (by kernel_rfl) ?_
          have hSSq1b : (fun b w' => w'.cell? ⟨w.heap.size + 1, 0, none⟩ = some (.int .i64 k) ∧ w'.cell? ⟨w.heap.size + 1, 1, none⟩ = some (.int .i64 a) ∧ w'.cell? ⟨w.heap.size + 1, 2, none⟩ = some (.string s) ∧ (b = false → w'.cell? ⟨gT, 1, none⟩ = some (.slice (some ⟨g5, 0, none⟩) n c5))) false (w11.drew) := ⟨u1, u2, u3, fun _ => u4⟩
          refine wpAnyB_take (i := 1) (oi := _) (v := ?vvq1b1) (fun w' => w'.cell? ⟨w.heap.size + 1, 0, none⟩ = some (.int .i64 k) ∧ w'.cell? ⟨w.heap.size + 1, 1, none⟩ = some (.int .i64 a) ∧ w'.cell? ⟨w.heap.size + 1, 2, none⟩ = some (.string s)) rfl (by kernel_rfl) (by kernel_rfl) (by kernel_rfl) (by kernel_rfl) (by rfl) (fun _ h => ⟨h.1, h.2.1, h.2.2.1⟩) (.inl fun _ h => ⟨h.1, h.2.1, h.2.2.1⟩) (fun _ _ _ h => h) (.inl ⟨by rfl, ?hyq1b1⟩) hSSq1b ?_
          case hyq1b1 =>
            intro w' hSw
            try dsimp only at hSw
            go_simp
            all_goals with_reducible rfl
          try simp only [Act.put, List.setIfInBounds_toArray]
          refine wpAnyB_take (i := 2) (oi := _) (v := ?vvq1b2) (fun w' => w'.cell? ⟨w.heap.size + 1, 0, none⟩ = some (.int .i64 k) ∧ w'.cell? ⟨w.heap.size + 1, 1, none⟩ = some (.int .i64 a) ∧ w'.cell? ⟨w.heap.size + 1, 2, none⟩ = some (.string s) ∧ w'.cell? ⟨gT, 1, none⟩ = some (.slice (some ⟨g5, 0, none⟩) n c5)) rfl (by kernel_rfl) (by kernel_rfl) (by kernel_rfl) (by kernel_rfl) (by rfl) (fun _ h => ⟨h.1, h.2.1, h.2.2.1, h.2.2.2 rfl⟩) (.inr (by kernel_rfl)) (fun _ _ _ h => h) (.inl ⟨by rfl, ?hyq1b2⟩) hSSq1b ?_
          case hyq1b2 =>
            intro w' hSw
            try dsimp only at hSw
            go_simp
            all_goals with_reducible rfl
          try simp only [Act.put]
          refine wpAnyB_take (i := 3) (oi := _) (v := ?vvq1b3) (fun w' => w'.cell? ⟨w.heap.size + 1, 0, none⟩ = some (.int .i64 k) ∧ w'.cell? ⟨w.heap.size + 1, 1, none⟩ = some (.int .i64 a) ∧ w'.cell? ⟨w.heap.size + 1, 2, none⟩ = some (.string s)) rfl (by kernel_rfl) (by kernel_rfl) (by kernel_rfl) (by kernel_rfl) (by rfl) (fun _ h => ⟨h.1, h.2.1, h.2.2.1⟩) (.inl fun _ h => ⟨h.1, h.2.1, h.2.2.1⟩) (fun _ _ _ h => h) (.inl ⟨by rfl, ?hyq1b3⟩) hSSq1b ?_
          case hyq1b3 =>
            intro w' hSw
            try dsimp only at hSw
            go_simp
            all_goals with_reducible rfl
          try simp only [Act.put]
          refine wpAnyB_take (i := 4) (oi := _) (v := ?vvq1b4) (fun w' => w'.cell? ⟨w.heap.size + 1, 0, none⟩ = some (.int .i64 k) ∧ w'.cell? ⟨w.heap.size + 1, 1, none⟩ = some (.int .i64 a) ∧ w'.cell? ⟨w.heap.size + 1, 2, none⟩ = some (.string s)) rfl (by kernel_rfl) (by kernel_rfl) (by kernel_rfl) (by kernel_rfl) (by rfl) (fun _ h => ⟨h.1, h.2.1, h.2.2.1⟩) (.inl fun _ h => ⟨h.1, h.2.1, h.2.2.1⟩) (fun _ _ _ h => h) (.inl ⟨by rfl, ?hyq1b4⟩) hSSq1b ?_
          case hyq1b4 =>
            intro w' hSw
            try dsimp only at hSw
            go_simp
            all_goals with_reducible rfl
          try simp only [Act.put]
          refine wpAnyB_take (i := 6) (oi := _) (v := ?vvq1b5) (fun w' => w'.cell? ⟨w.heap.size + 1, 0, none⟩ = some (.int .i64 k) ∧ w'.cell? ⟨w.heap.size + 1, 1, none⟩ = some (.int .i64 a) ∧ w'.cell? ⟨w.heap.size + 1, 2, none⟩ = some (.string s)) rfl (by kernel_rfl) (by kernel_rfl) (by kernel_rfl) (by kernel_rfl) (by rfl) (fun _ h => ⟨h.1, h.2.1, h.2.2.1⟩) (.inl fun _ h => ⟨h.1, h.2.1, h.2.2.1⟩) (fun _ _ _ h => h) (.inl ⟨by rfl, ?hyq1b5⟩) hSSq1b ?_
          case hyq1b5 =>
            intro w' hSw
            try dsimp only at hSw
            go_simp
            all_goals with_reducible rfl
          try simp only [Act.put]
          refine wpAnyB_take (i := 7) (oi := _) (v := ?vvq1b6) (fun w' => w'.cell? ⟨w.heap.size + 1, 0, none⟩ = some (.int .i64 k) ∧ w'.cell? ⟨w.heap.size + 1, 1, none⟩ = some (.int .i64 a) ∧ w'.cell? ⟨w.heap.size + 1, 2, none⟩ = some (.string s)) rfl (by kernel_rfl) (by kernel_rfl) (by kernel_rfl) (by kernel_rfl) (by rfl) (fun _ h => ⟨h.1, h.2.1, h.2.2.1⟩) (.inl fun _ h => ⟨h.1, h.2.1, h.2.2.1⟩) (fun _ _ _ h => h) (.inl ⟨by rfl, ?hyq1b6⟩) hSSq1b ?_
          case hyq1b6 =>
            intro w' hSw
            try dsimp only at hSw
            go_simp
            all_goals with_reducible rfl
          try simp only [Act.put]
          refine wpAnyB_take (i := 11) (oi := _) (v := ?vvq1b7) (fun w' => w'.cell? ⟨w.heap.size + 1, 0, none⟩ = some (.int .i64 k) ∧ w'.cell? ⟨w.heap.size + 1, 1, none⟩ = some (.int .i64 a) ∧ w'.cell? ⟨w.heap.size + 1, 2, none⟩ = some (.string s)) rfl (by kernel_rfl) (by kernel_rfl) (by kernel_rfl) (by kernel_rfl) (by rfl) (fun _ h => ⟨h.1, h.2.1, h.2.2.1⟩) (.inl fun _ h => ⟨h.1, h.2.1, h.2.2.1⟩) (fun _ _ _ h => h) (.inl ⟨by rfl, ?hyq1b7⟩) hSSq1b ?_
          case hyq1b7 =>
            intro w' hSw
            try dsimp only at hSw
            go_simp
            all_goals with_reducible rfl
          try simp only [Act.put]
          refine wpAnyB_take (i := 12) (oi := _) (v := ?vvq1b8) (fun w' => w'.cell? ⟨w.heap.size + 1, 0, none⟩ = some (.int .i64 k) ∧ w'.cell? ⟨w.heap.size + 1, 1, none⟩ = some (.int .i64 a) ∧ w'.cell? ⟨w.heap.size + 1, 2, none⟩ = some (.string s) ∧ w'.cell? ⟨gT, 1, none⟩ = some (.slice (some ⟨g5, 0, none⟩) n c5)) rfl (by kernel_rfl) (by kernel_rfl) (by kernel_rfl) (by kernel_rfl) (by rfl) (fun _ h => ⟨h.1, h.2.1, h.2.2.1, h.2.2.2 rfl⟩) (.inr (by kernel_rfl)) (fun _ _ _ h => h) (.inl ⟨by rfl, ?hyq1b8⟩) hSSq1b ?_
          case hyq1b8 =>
            intro w' hSw
            try dsimp only at hSw
            go_simp
            all_goals with_reducible rfl
          try simp only [Act.put]
          refine wpAnyB_take (i := 13) (oi := _) (v := ?vvq1b9) (fun w' => w'.cell? ⟨w.heap.size + 1, 0, none⟩ = some (.int .i64 k) ∧ w'.cell? ⟨w.heap.size + 1, 1, none⟩ = some (.int .i64 a) ∧ w'.cell? ⟨w.heap.size + 1, 2, none⟩ = some (.string s)) rfl (by kernel_rfl) (by kernel_rfl) (by kernel_rfl) (by kernel_rfl) (by rfl) (fun _ h => ⟨h.1, h.2.1, h.2.2.1⟩) (.inl fun _ h => ⟨h.1, h.2.1, h.2.2.1⟩) (fun _ _ _ h => h) (.inl ⟨by rfl, ?hyq1b9⟩) hSSq1b ?_
          case hyq1b9 =>
            intro w' hSw
            try dsimp only at hSw
            go_simp
            all_goals with_reducible rfl
          try simp only [Act.put]
          refine wpAnyB_take (i := 14) (oi := _) (v := ?vvq1b10) (fun w' => w'.cell? ⟨w.heap.size + 1, 0, none⟩ = some (.int .i64 k) ∧ w'.cell? ⟨w.heap.size + 1, 1, none⟩ = some (.int .i64 a) ∧ w'.cell? ⟨w.heap.size + 1, 2, none⟩ = some (.string s)) rfl (by kernel_rfl) (by kernel_rfl) (by kernel_rfl) (by kernel_rfl) (by rfl) (fun _ h => ⟨h.1, h.2.1, h.2.2.1⟩) (.inl fun _ h => ⟨h.1, h.2.1, h.2.2.1⟩) (fun _ _ _ h => h) (.inl ⟨by rfl, ?hyq1b10⟩) hSSq1b ?_
          case hyq1b10 =>
            intro w' hSw
            try dsimp only at hSw
            go_simp
            all_goals with_reducible rfl
          try simp only [Act.put]
          refine wpAnyB_one (i := 0) false rfl (by kernel_rfl) (by kernel_rfl) ?_
          intro KK hKK
          go_simp
          have P0 : Below w11.heap.size w11 (w11.alloc (.cells #[] 26)) := by go_grown
          refine hKK.out _ _ ⟨(HF.out _ P0).1, (HF.out _ P0).2.1, (HF.out _ P0).2.2.1, fun _ => (HF.out _ P0).2.2.2⟩ ?_
          clear hKK KK
          try simp only [Act.put, List.setIfInBounds_toArray, List.set_cons_zero, List.set_cons_succ]
          refine wpAnyB_one (i := 5) false rfl (by kernel_rfl) (by kernel_rfl) ?_
          intro KK hKK
          refine step_appW rfl (.tmp 137) (.tmp 141) rfl w11.heap.size (.slice (some ⟨w11.heap.size, 0, none⟩) 0 0) 0 [] rfl (own_lit0 (Nat.le_refl _)) (some ⟨g5, 0, none⟩) j c5 (L.take j) rfl ((rdW_take (has_rdW' (HG11.out.below P0 HG11.out.lt)) j)) (by rw [List.length_take, HLn.out]; omega) (by omega) (by simp) ?_
          intro A12 c12 w12 ho12 hg12
          rw [Nat.zero_add] at ho12 ⊢
          have P1 : Below w11.heap.size w11 w12 := P0.drew.grown hg12 (by simp) (fun kk hk => by simp [Value.ownBlock] at hk; omega)
          refine hKK.out _ _ ⟨(HF.out _ P1).1, (HF.out _ P1).2.1, (HF.out _ P1).2.2.1, fun _ => (HF.out _ P1).2.2.2⟩ ?_
          clear hKK KK
          try simp only [Act.put, List.setIfInBounds_toArray]
          refine wpAnyB_one (i := 8) false rfl (by kernel_rfl) (by kernel_rfl) ?_
          intro KK hKK
          go_simp
          go_at_call 21
          refine (undoing28 k a s _ hs2).mono ?_
          rintro e w13 ⟨rfl, hb13⟩
          have P2 : Below w11.heap.size w11 w13 := P1.trans ((bvia (by go_grown) hb13).mono P1.size)
          have ho13 := own_below ho12 (bvia (by go_grown) hb13)
          refine hKK.out _ _ ⟨(HF.out _ P2).1, (HF.out _ P2).2.1, (HF.out _ P2).2.2.1, fun _ => (HF.out _ P2).2.2.2⟩ ?_
          clear hKK KK
          try simp only [Act.put, List.setIfInBounds_toArray, List.set_cons_zero, List.set_cons_succ]
          refine wpAnyB_one (i := 9) false rfl (by kernel_rfl) (by kernel_rfl) ?_
          intro KK hKK
          go_simp
          have P3 : Below w11.heap.size w11 (w13.alloc (.cells #[.int .i64 k, .int .i64 a, .string s, .int .i64 k, .int .i64 a, .string (invW s)] 26)) := P2.trans ((show Below w13.heap.size w13 _ by go_grown).mono P2.size)
          refine hKK.out _ _ ⟨(HF.out _ P3).1, (HF.out _ P3).2.1, (HF.out _ P3).2.2.1, fun _ => (HF.out _ P3).2.2.2⟩ ?_
          clear hKK KK
          try simp only [Act.put, List.setIfInBounds_toArray, List.set_cons_zero, List.set_cons_succ]
          refine wpAnyB_one (i := 10) false rfl (by kernel_rfl) (by kernel_rfl) ?_
          intro KK hKK
          refine step_appW rfl (.tmp 142) (.tmp 146) rfl w11.heap.size (.slice A12 j c12) j _ rfl (ho13.alloc _) (some ⟨w13.heap.size, 0, none⟩) 2 2 [⟨k, a, s⟩, undoW ⟨k, a, s⟩] rfl (has_rdW (Has.new rfl)) rfl (by omega) P3.size ?_
          intro A14 c14 w14 ho14 hg14
          have P4 : Below w11.heap.size w11 w14 := P3.grown hg14 P3.size (fun kk hk => (ho12.lt kk hk).1)
          refine hKK.out _ _ ⟨(HF.out _ P4).1, (HF.out _ P4).2.1, (HF.out _ P4).2.2.1, fun _ => (HF.out _ P4).2.2.2⟩ ?_
          clear hKK KK
          try simp only [Act.put, List.setIfInBounds_toArray]
          refine wpAnyB_one (i := 15) false rfl (by kernel_rfl) (by kernel_rfl) ?_
          intro KK hKK
          refine step_appW rfl (.tmp 147) (.tmp 151) rfl w11.heap.size (.slice A14 (j + 2) c14) (j + 2) _ rfl ho14 _ (n - j) _ (L.drop j) rfl (rdW_drop (has_rdW' (HG11.out.below P4 HG11.out.lt)) j) (by rw [List.length_drop, HLn.out]) (by omega) P4.size ?_
          intro A15 c15 w15 ho15 hg15
          have P5 : Below w11.heap.size w11 w15 := P4.grown hg15 P4.size (fun kk hk => (ho14.lt kk hk).1)
          obtain ⟨nn, hnn⟩ : ∃ nn, nn = j + 2 + (n - j) := ⟨_, rfl⟩
          rw [← hnn] at ho15 ⊢
          have HNN := Lib.hid hnn
          clear hnn
          have T15 := HT11.out.below P5 HT11.out.lt
          refine hKK.out _ _ ⟨(HF.out _ P5).1, (HF.out _ P5).2.1, (HF.out _ P5).2.2.1, fun _ => (HF.out _ P5).2.2.2⟩ ?_
          clear hKK KK
          try simp only [Act.put]
          refine wpAnyB_one (i := 16) false rfl (by kernel_rfl) (by kernel_rfl) ?_
          intro KK hKK
          go_simp
          refine hKK.out _ _ ⟨(HF.out _ P5).1, (HF.out _ P5).2.1, (HF.out _ P5).2.2.1, fun _ => (HF.out _ P5).2.2.2⟩ ?_
          clear hKK KK
          try simp only [Act.put, List.setIfInBounds_toArray, List.set_cons_zero, List.set_cons_succ]
          refine wpAnyB_one (i := 17) true rfl (by kernel_rfl) (by kernel_rfl) ?_
          intro KK hKK
          have y0 := T15.free 1
          have y1 := T15.lt
          have y2 := T15.two.2
          go_simp
          refine hKK.out _ _ ⟨(World.cell?_setCell_far _ _ _ _ nz7).trans (HF.out _ P5).1, (World.cell?_setCell_far _ _ _ _ nz7).trans (HF.out _ P5).2.1, (World.cell?_setCell_far _ _ _ _ nz7).trans (HF.out _ P5).2.2.1, fun hh => by cases hh⟩ ?_
          clear hKK KK
          try simp only [Act.put, List.setIfInBounds_toArray, List.set_cons_zero, List.set_cons_succ]
          refine wpAnyB_done (by kernel_rfl) (NoPanic.normal ?_) _
          have T16 := T15.set 1 (.slice A15 nn c15)
          have O16 := ownsRow_setCell_below ho15 (a := ⟨gT, 1, none⟩) (by simpa using HT11.out.lt) (.slice A15 nn c15)
          have hcc := own_caps O16
          have B16 : Below w4.heap.size w4 (w15.setCell ⟨gT, 1, none⟩ (.slice A15 nn c15)) := (B11.trans (P5.mono B11.size)).setCell (by simpa using hgT) _
          have okW := schk_zero HC.out
          have okW2 := okW.undo
          have okN := Lib.hid (okL.out.put okW (w := ⟨k, a, s⟩) (j := j) (by rw [HLn.out]; omega))
          have eqL : [] ++ L.take j ++ [(⟨k, a, s⟩ : Wk), undoW ⟨k, a, s⟩] ++ (L.drop j) = L.take j ++ ⟨k, a, s⟩ :: undoW ⟨k, a, s⟩ :: L.drop j := by simp
          rw [eqL] at O16
          have lN : (L.take j ++ ⟨k, a, s⟩ :: undoW ⟨k, a, s⟩ :: L.drop j).length = nn := by rw [HNN.out]; simp; have := HLn.out; omega
          have alN : Alike (netL (L.take j ++ ⟨k, a, s⟩ :: undoW ⟨k, a, s⟩ :: L.drop j)) (netL us) := by
            refine (net_pair (L.take j) (L.drop j) (x := ⟨k, a, s⟩) (okW.back _ (by simp))).trans ?_
            rw [List.take_append_drop]; exact HLa.out
          have HO16 := Lib.hid O16; clear O16 ho15
          clear eqL y0 y1 y2 T15
          generalize w15.setCell ⟨gT, 1, none⟩ (.slice A15 nn c15) = w16 at *
          obtain ⟨te0, te1⟩ := T16.two
          have tq1 := T16.lt
          go_wp2_with fail
          refine (netOk NU.out okN.out A15 nn c15 _ (own_rdW HO16.out) lN hcc.1).mono ?_
          rintro e w20 ⟨A20, n20, c20, rfl, r20, l20, m20, o20, hb20⟩
          have b20 : Below w4.heap.size w4 (w20.alloc (.cells #[.int .i64 p, .slice A20 n20 c20] 24)) := B16.trans ((bvia hb20 (by go_grown)).mono B16.size)
          have Y20 : Has (w20.alloc (.cells #[.int .i64 p, .slice A20 n20 c20] 24)) w20.heap.size 24 [.int .i64 p, .slice A20 n20 c20] := Has.new rfl
          have R20 := Lib.hid (r20.up (show Below w20.heap.size w20 (w20.alloc (.cells #[.int .i64 p, .slice A20 n20 c20] 24)) by go_grown)); clear r20 hb20 te0 te1 tq1
          have Y2f := HY.out.below b20 HY.out.lt
          have R2f := Lib.hid (HR.out.up b20)
          obtain ⟨f0, f1⟩ := Y2f.two
          have fq := Y2f.lt
          go_wp2_with fail
          refine (same05 p A2 A20 n2 n20 c2 c20 (netL us) (netL (L.take j ++ ⟨k, a, s⟩ :: undoW ⟨k, a, s⟩ :: L.drop j)) _ R2f.out R20.out l2 l20 U.out.net okN.out.net alN.symm).mono ?_
          rintro e w21 ⟨rfl, hb21⟩
          go_wp2_with fail
          refine (AW.out _).mono ?_
          rintro e w22 ⟨rfl, hb22⟩
          go_wp2
          go_ret
          exact ⟨rfl, bvia (bvia (HW4.trans (b20.mono (Nat.le_of_lt q0'))) hb21) hb22⟩
      · have hi' : decide ((i : Int) < (m : Int)) = false := by simp; omega
        obtain ⟨v0, v1, v2, v3, vq⟩ := HQ4.out _ hB
        by_cases hm0 : m = 0
        · have hm0' : decide (0 < m) = false := by simp; omega
          subst hm0
          obtain ⟨te0, te1⟩ := HT.out.two
          have tq1 := HT.out.lt
          go_wp2_with fail
          refine (netOk NU.out okL.out (some ⟨g5, 0, none⟩) n c5 _ (has_rdW' HG.out) HLn.out hc5).mono ?_
          rintro e w20 ⟨A20, n20, c20, rfl, r20, l20, m20, o20, hb20⟩
          have b20 : Below w4.heap.size w4 (w20.alloc (.cells #[.int .i64 p, .slice A20 n20 c20] 24)) := hB.trans ((bvia hb20 (by go_grown)).mono hB.size)
          have Y20 : Has (w20.alloc (.cells #[.int .i64 p, .slice A20 n20 c20] 24)) w20.heap.size 24 [.int .i64 p, .slice A20 n20 c20] := Has.new rfl
          have R20 := Lib.hid (r20.up (show Below w20.heap.size w20 (w20.alloc (.cells #[.int .i64 p, .slice A20 n20 c20] 24)) by go_grown)); clear r20 hb20 te0 te1 tq1
          have Y2f := HY.out.below b20 HY.out.lt
          have R2f := Lib.hid (HR.out.up b20)
          obtain ⟨f0, f1⟩ := Y2f.two
          have fq := Y2f.lt
          go_wp2_with fail
          refine (same05 p A2 A20 n2 n20 c2 c20 (netL us) (netL L) _ R2f.out R20.out l2 l20 U.out.net okL.out.net HLa.out.symm).mono ?_
          rintro e w21 ⟨rfl, hb21⟩
          go_wp2_with fail
          refine (AW.out _).mono ?_
          rintro e w22 ⟨rfl, hb22⟩
          go_wp2
          go_ret
          exact ⟨rfl, bvia (bvia (HW4.trans (b20.mono (Nat.le_of_lt q0'))) hb21) hb22⟩
        have hm0' : 0 < m := by omega
        by_cases hc : schk p [⟨k, a, s⟩] = 0
        rotate_left
        · have hcb : (schk p [⟨k, a, s⟩] == 0) = false := by simpa using hc
          have CK := Lib.hid (fun (W : World) (hw : RdW W W.heap.size (some ⟨wo.heap.size, 0, none⟩) [⟨k, a, s⟩]) => check04 p (some ⟨wo.heap.size, 0, none⟩) 1 1 [⟨k, a, s⟩] W (by omega) hw rfl (by simpa using hs2))
          clear hc
          generalize schk p [⟨k, a, s⟩] = eck at *
          go_wp2_with fail
          refine (CK.out _ (rdW_one wo k a s 26)).mono ?_
          rintro e w10 ⟨rfl, hb10⟩
          have hb10' : Below wo.heap.size wo w10 := bvia (by go_grown) hb10
          have B10 : Below w4.heap.size w4 w10 := hB.trans (hb10'.mono hB.size)
          have T10 := HT.out.below hb10' HT.out.lt
          have G10 := HG.out.below hb10' HG.out.lt
          clear v0 v1 v2 v3 vq
          obtain ⟨te0, te1⟩ := T10.two
          have tq1 := T10.lt
          go_wp2_with fail
          refine (netOk NU.out okL.out (some ⟨g5, 0, none⟩) n c5 _ (has_rdW' G10) HLn.out hc5).mono ?_
          rintro e w20 ⟨A20, n20, c20, rfl, r20, l20, m20, o20, hb20⟩
          have b20 : Below w4.heap.size w4 (w20.alloc (.cells #[.int .i64 p, .slice A20 n20 c20] 24)) := B10.trans ((bvia hb20 (by go_grown)).mono B10.size)
          have Y20 : Has (w20.alloc (.cells #[.int .i64 p, .slice A20 n20 c20] 24)) w20.heap.size 24 [.int .i64 p, .slice A20 n20 c20] := Has.new rfl
          have R20 := Lib.hid (r20.up (show Below w20.heap.size w20 (w20.alloc (.cells #[.int .i64 p, .slice A20 n20 c20] 24)) by go_grown)); clear r20 hb20 te0 te1 tq1
          have Y2f := HY.out.below b20 HY.out.lt
          have R2f := Lib.hid (HR.out.up b20)
          obtain ⟨f0, f1⟩ := Y2f.two
          have fq := Y2f.lt
          go_wp2_with fail
          refine (same05 p A2 A20 n2 n20 c2 c20 (netL us) (netL L) _ R2f.out R20.out l2 l20 U.out.net okL.out.net HLa.out.symm).mono ?_
          rintro e w21 ⟨rfl, hb21⟩
          go_wp2_with fail
          refine (AW.out _).mono ?_
          rintro e w22 ⟨rfl, hb22⟩
          go_wp2
          go_ret
          exact ⟨rfl, bvia (bvia (HW4.trans (b20.mono (Nat.le_of_lt q0'))) hb21) hb22⟩
        have HC := Lib.hid hc; clear hc
        go_wp2_with fail
        refine (check04 p (some ⟨wo.heap.size, 0, none⟩) 1 1 [⟨k, a, s⟩] _ (by omega) (rdW_one wo k a s 26) rfl (by simpa using hs2)).mono ?_
        rintro e w10 ⟨rfl, hb10⟩
        rw [HC.out]
        have hb10' : Below wo.heap.size wo w10 := bvia (by go_grown) hb10
        have B10 : Below w4.heap.size w4 w10 := hB.trans (hb10'.mono hB.size)
        have T10 := HT.out.below hb10' HT.out.lt
        have G10 := HG.out.below hb10' HG.out.lt
        clear v0 v1 v2 v3 vq
        --INSERT
        obtain ⟨z, hz⟩ := get_of_lt (l := zs) (k := 0) (by rw [HZL.out]; exact hm0')
        obtain ⟨bz, oz, rfl, hbz, z1⟩ := HZ.out _ z hz
        obtain ⟨hz0, hz1⟩ := HZR.out z (mem_of_get hz)
        have W10 : Below w.heap.size w w10 := HW4.trans (B10.mono (Nat.le_of_lt q0'))
        have z2 : w10.cell? ⟨bz, oz, none⟩ = some (.int .u16 z) := by rw [W10.cell hbz]; exact z1
        have q3 : bz < w10.heap.size := by have := W10.size; omega
        obtain ⟨e0', e1'⟩ := T10.two
        have q4 := T10.lt
        have HT10 := Lib.hid T10
        have HG10 := Lib.hid G10
        clear T10 G10 e0 e1 q1 q2
        have hnz : ((n : Int) + 1 == 0) = false := by simp; omega
        have i1 : IntKind.i64.wrap z = z := IntWalk.i64_in _ (by omega)
        have i2 : IntKind.i64.wrap ((n : Int) + 1) = (n : Int) + 1 := IntWalk.i64_in _ (by omega)
        go_wp2
        have hxc := fun (x : Ext w10) => x.cell
        refine wp_region_ext (by kernel_rfl) (by kernel_rfl) ?_
        repeat (go_big_quiet_step (fail))
        refine wpQuiet_nil ?_
        intro w11 hw'
        have hb11 := ext_below hw'
        clear hw'
        clear hxc i1 i2 hnz z1 z2 hz
        have hj0 := Int.emod_nonneg z (show (n : Int) + 1 ≠ 0 by omega)
        have hj1 := Int.emod_lt_of_pos z (show (0 : Int) < (n : Int) + 1 by omega)
        obtain ⟨j, hjz⟩ := Int.eq_ofNat_of_zero_le hj0
        rw [hjz] at hj1 ⊢
        clear hjz hj0
        have hj : j ≤ n := by omega
        have HT11 := Lib.hid (HT10.out.below hb11 HT10.out.lt)
        have HG11 := Lib.hid (HG10.out.below hb11 HG10.out.lt)
        have B11 : Below w4.heap.size w4 w11 := B10.trans (hb11.mono B10.size)
        have HF := Lib.hid (show ∀ W, Below w11.heap.size w11 W → W.cell? ⟨w.heap.size + 1, 0, none⟩ = some (.int .i64 k) ∧ W.cell? ⟨w.heap.size + 1, 1, none⟩ = some (.int .i64 a) ∧ W.cell? ⟨w.heap.size + 1, 2, none⟩ = some (.string s) ∧ W.cell? ⟨gT, 1, none⟩ = some (.slice (some ⟨g5, 0, none⟩) n c5) from
          fun W hb => by
            obtain ⟨s0, s1, s2, s3, _⟩ := HQ4.out _ (B11.trans (hb.mono B11.size))
            exact ⟨s1, s2, s3, (HT11.out.below hb HT11.out.lt).two.2⟩)
        obtain ⟨u1, u2, u3, u4⟩ := HF.out _ (Below.refl _ _)
        have nz7 : gT ≠ w.heap.size + 1 := by have := (HQ4.out _ (Below.refl _ _)).2.2.2.2; omega
        have j1 : (0 : Int) ≤ (j : Int) := by omega
        have j2 : (j : Int) ≤ (c5 : Int) := by omega
        have j3 : (j : Int) ≤ (n : Int) := by omega
        have j4 : (n : Int) ≤ (c5 : Int) := by omega
        have j5 : j ≤ n := hj
        have j6 : j ≤ c5 := by omega
        have q8 := HT11.out.lt
        clear e0' e1' q3 q4
        go_wp2
        by_cases hcap : c5 = j
        · have hnj : n = j := by omega
          obtain rfl : j = c5 := hcap.symm
          have HNJ := Lib.hid hnj
          clear hnj
          refine wp_region_noPanic ?_
          refine wp_region_B (fun b w' => w'.cell? ⟨w.heap.size + 1, 0, none⟩ = some (.int .i64 k) ∧ w'.cell? ⟨w.heap.size + 1, 1, none⟩ = some (.int .i64 a) ∧ w'.cell? ⟨w.heap.size + 1, 2, none⟩ = some (.string s) ∧ (b = false → w'.cell? ⟨gT, 1, none⟩ = some (.slice (some ⟨g5, 0, none⟩) n j))) 17 (by kernel_rfl) ?_
          have hSSq2a : (fun b w' => w'.cell? ⟨w.heap.size + 1, 0, none⟩ = some (.int .i64 k) ∧ w'.cell? ⟨w.heap.size + 1, 1, none⟩ = some (.int .i64 a) ∧ w'.cell? ⟨w.heap.size + 1, 2, none⟩ = some (.string s) ∧ (b = false → w'.cell? ⟨gT, 1, none⟩ = some (.slice (some ⟨g5, 0, none⟩) n j))) false (w11.drew) := ⟨u1, u2, u3, fun _ => u4⟩
          refine wpAnyB_take (i := 1) (oi := _) (v := ?vvq2a1) (fun w' => w'.cell? ⟨w.heap.size + 1, 0, none⟩ = some (.int .i64 k) ∧ w'.cell? ⟨w.heap.size + 1, 1, none⟩ = some (.int .i64 a) ∧ w'.cell? ⟨w.heap.size + 1, 2, none⟩ = some (.string s)) rfl (by kernel_rfl) (by kernel_rfl) (by kernel_rfl) (by kernel_rfl) (by rfl) (fun _ h => ⟨h.1, h.2.1, h.2.2.1⟩) (.inl fun _ h => ⟨h.1, h.2.1, h.2.2.1⟩) (fun _ _ _ h => h) (.inl ⟨by rfl, ?hyq2a1⟩) hSSq2a ?_
          case hyq2a1 =>
            intro w' hSw
            try dsimp only at hSw
            go_simp
            all_goals with_reducible rfl
          try simp only [Act.put, List.setIfInBounds_toArray]
          refine wpAnyB_take (i := 2) (oi := _) (v := ?vvq2a2) (fun w' => w'.cell? ⟨w.heap.size + 1, 0, none⟩ = some (.int .i64 k) ∧ w'.cell? ⟨w.heap.size + 1, 1, none⟩ = some (.int .i64 a) ∧ w'.cell? ⟨w.heap.size + 1, 2, none⟩ = some (.string s) ∧ w'.cell? ⟨gT, 1, none⟩ = some (.slice (some ⟨g5, 0, none⟩) n j)) rfl (by kernel_rfl) (by kernel_rfl) (by kernel_rfl) (by kernel_rfl) (by rfl) (fun _ h => ⟨h.1, h.2.1, h.2.2.1, h.2.2.2 rfl⟩) (.inr (by kernel_rfl)) (fun _ _ _ h => h) (.inl ⟨by rfl, ?hyq2a2⟩) hSSq2a ?_
          case hyq2a2 =>
            intro w' hSw
            try dsimp only at hSw
            go_simp
            all_goals with_reducible rfl
          try simp only [Act.put]
          refine wpAnyB_take (i := 3) (oi := _) (v := ?vvq2a3) (fun w' => w'.cell? ⟨w.heap.size + 1, 0, none⟩ = some (.int .i64 k) ∧ w'.cell? ⟨w.heap.size + 1, 1, none⟩ = some (.int .i64 a) ∧ w'.cell? ⟨w.heap.size + 1, 2, none⟩ = some (.string s)) rfl (by kernel_rfl) (by kernel_rfl) (by kernel_rfl) (by kernel_rfl) (by rfl) (fun _ h => ⟨h.1, h.2.1, h.2.2.1⟩) (.inl fun _ h => ⟨h.1, h.2.1, h.2.2.1⟩) (fun _ _ _ h => h) (.inl ⟨by rfl, ?hyq2a3⟩) hSSq2a ?_
          case hyq2a3 =>
            intro w' hSw
            try dsimp only at hSw
            go_simp
            all_goals with_reducible rfl
          try simp only [Act.put]
          refine wpAnyB_take (i := 4) (oi := _) (v := ?vvq2a4) (fun w' => w'.cell? ⟨w.heap.size + 1, 0, none⟩ = some (.int .i64 k) ∧ w'.cell? ⟨w.heap.size + 1, 1, none⟩ = some (.int .i64 a) ∧ w'.cell? ⟨w.heap.size + 1, 2, none⟩ = some (.string s)) rfl (by kernel_rfl) (by kernel_rfl) (by kernel_rfl) (by kernel_rfl) (by rfl) (fun _ h => ⟨h.1, h.2.1, h.2.2.1⟩) (.inl fun _ h => ⟨h.1, h.2.1, h.2.2.1⟩) (fun _ _ _ h => h) (.inl ⟨by rfl, ?hyq2a4⟩) hSSq2a ?_
          case hyq2a4 =>
            intro w' hSw
            try dsimp only at hSw
            go_simp
            all_goals with_reducible rfl
          try simp only [Act.put]
          refine wpAnyB_take (i := 6) (oi := _) (v := ?vvq2a5) (fun w' => w'.cell? ⟨w.heap.size + 1, 0, none⟩ = some (.int .i64 k) ∧ w'.cell? ⟨w.heap.size + 1, 1, none⟩ = some (.int .i64 a) ∧ w'.cell? ⟨w.heap.size + 1, 2, none⟩ = some (.string s)) rfl (by kernel_rfl) (by kernel_rfl) (by kernel_rfl) (by kernel_rfl) (by rfl) (fun _ h => ⟨h.1, h.2.1, h.2.2.1⟩) (.inl fun _ h => ⟨h.1, h.2.1, h.2.2.1⟩) (fun _ _ _ h => h) (.inl ⟨by rfl, ?hyq2a5⟩) hSSq2a ?_
          case hyq2a5 =>
            intro w' hSw
            try dsimp only at hSw
            go_simp
            all_goals with_reducible rfl
          try simp only [Act.put]
          refine wpAnyB_take (i := 7) (oi := _) (v := ?vvq2a6) (fun w' => w'.cell? ⟨w.heap.size + 1, 0, none⟩ = some (.int .i64 k) ∧ w'.cell? ⟨w.heap.size + 1, 1, none⟩ = some (.int .i64 a) ∧ w'.cell? ⟨w.heap.size + 1, 2, none⟩ = some (.string s)) rfl (by kernel_rfl) (by kernel_rfl) (by kernel_rfl) (by kernel_rfl) (by rfl) (fun _ h => ⟨h.1, h.2.1, h.2.2.1⟩) (.inl fun _ h => ⟨h.1, h.2.1, h.2.2.1⟩) (fun _ _ _ h => h) (.inl ⟨by rfl, ?hyq2a6⟩) hSSq2a ?_
          case hyq2a6 =>
            intro w' hSw
            try dsimp only at hSw
            go_simp
            all_goals with_reducible rfl
          try simp only [Act.put]
          refine wpAnyB_take (i := 11) (oi := _) (v := ?vvq2a7) (fun w' => w'.cell? ⟨w.heap.size + 1, 0, none⟩ = some (.int .i64 k) ∧ w'.cell? ⟨w.heap.size + 1, 1, none⟩ = some (.int .i64 a) ∧ w'.cell? ⟨w.heap.size + 1, 2, none⟩ = some (.string s)) rfl (by kernel_rfl) (by kernel_rfl) (by kernel_rfl) (by kernel_rfl) (by rfl) (fun _ h => ⟨h.1, h.2.1, h.2.2.1⟩) (.inl fun _ h => ⟨h.1, h.2.1, h.2.2.1⟩) (fun _ _ _ h => h) (.inl ⟨by rfl, ?hyq2a7⟩) hSSq2a ?_
          case hyq2a7 =>
            intro w' hSw
            try dsimp only at hSw
            go_simp
            all_goals with_reducible rfl
          try simp only [Act.put]
          refine wpAnyB_take (i := 12) (oi := _) (v := ?vvq2a8) (fun w' => w'.cell? ⟨w.heap.size + 1, 0, none⟩ = some (.int .i64 k) ∧ w'.cell? ⟨w.heap.size + 1, 1, none⟩ = some (.int .i64 a) ∧ w'.cell? ⟨w.heap.size + 1, 2, none⟩ = some (.string s) ∧ w'.cell? ⟨gT, 1, none⟩ = some (.slice (some ⟨g5, 0, none⟩) n j)) rfl (by kernel_rfl) (by kernel_rfl) (by kernel_rfl) (by kernel_rfl) (by rfl) (fun _ h => ⟨h.1, h.2.1, h.2.2.1, h.2.2.2 rfl⟩) (.inr (by kernel_rfl)) (fun _ _ _ h => h) (.inl ⟨by rfl, ?hyq2a8⟩) hSSq2a ?_
          case hyq2a8 =>
            intro w' hSw
            try dsimp only at hSw
            go_simp
            all_goals with_reducible rfl
          try simp only [Act.put]
          refine wpAnyB_take (i := 13) (oi := _) (v := ?vvq2a9) (fun w' => w'.cell? ⟨w.heap.size + 1, 0, none⟩ = some (.int .i64 k) ∧ w'.cell? ⟨w.heap.size + 1, 1, none⟩ = some (.int .i64 a) ∧ w'.cell? ⟨w.heap.size + 1, 2, none⟩ = some (.string s)) rfl (by kernel_rfl) (by kernel_rfl) (by kernel_rfl) (by kernel_rfl) (by rfl) (fun _ h => ⟨h.1, h.2.1, h.2.2.1⟩) (.inl fun _ h => ⟨h.1, h.2.1, h.2.2.1⟩) (fun _ _ _ h => h) (.inl ⟨by rfl, ?hyq2a9⟩) hSSq2a ?_
          case hyq2a9 =>
            intro w' hSw
            try dsimp only at hSw
            go_simp
            all_goals with_reducible rfl
          try simp only [Act.put]
          refine wpAnyB_take (i := 14) (oi := _) (v := ?vvq2a10) (fun w' => w'.cell? ⟨w.heap.size + 1, 0, none⟩ = some (.int .i64 k) ∧ w'.cell? ⟨w.heap.size + 1, 1, none⟩ = some (.int .i64 a) ∧ w'.cell? ⟨w.heap.size + 1, 2, none⟩ = some (.string s)) rfl (by kernel_rfl) (by kernel_rfl) (by kernel_rfl) (by kernel_rfl) (by rfl) (fun _ h => ⟨h.1, h.2.1, h.2.2.1⟩) (.inl fun _ h => ⟨h.1, h.2.1, h.2.2.1⟩) (fun _ _ _ h => h) (.inl ⟨by rfl, ?hyq2a10⟩) hSSq2a ?_
          case hyq2a10 =>
            intro w' hSw
            try dsimp only at hSw
            go_simp
            all_goals with_reducible rfl
          try simp only [Act.put]
          refine wpAnyB_one (i := 0) false rfl (by kernel_rfl) (by kernel_rfl) ?_
          intro KK hKK
          go_simp
          have P0 : Below w11.heap.size w11 (w11.alloc (.cells #[] 26)) := by go_grown
          refine hKK.out _ _ ⟨(HF.out _ P0).1, (HF.out _ P0).2.1, (HF.out _ P0).2.2.1, fun _ => (HF.out _ P0).2.2.2⟩ ?_
          clear hKK KK
          try simp only [Act.put, List.setIfInBounds_toArray, List.set_cons_zero, List.set_cons_succ]
          refine wpAnyB_one (i := 5) false rfl (by kernel_rfl) (by kernel_rfl) ?_
          intro KK hKK
          refine step_appW rfl (.tmp 137) (.tmp 141) rfl w11.heap.size (.slice (some ⟨w11.heap.size, 0, none⟩) 0 0) 0 [] rfl (own_lit0 (Nat.le_refl _)) (some ⟨g5, 0, none⟩) j j (L.take j) rfl ((rdW_take (has_rdW' (HG11.out.below P0 HG11.out.lt)) j)) (by rw [List.length_take, HLn.out]; omega) (by omega) (by simp) ?_
          intro A12 c12 w12 ho12 hg12
          rw [Nat.zero_add] at ho12 ⊢
          have P1 : Below w11.heap.size w11 w12 := P0.drew.grown hg12 (by simp) (fun kk hk => by simp [Value.ownBlock] at hk; omega)
          refine hKK.out _ _ ⟨(HF.out _ P1).1, (HF.out _ P1).2.1, (HF.out _ P1).2.2.1, fun _ => (HF.out _ P1).2.2.2⟩ ?_
          clear hKK KK
          try simp only [Act.put, List.setIfInBounds_toArray]
          refine wpAnyB_one (i := 8) false rfl (by kernel_rfl) (by kernel_rfl) ?_
          intro KK hKK
          go_simp
          go_at_call 21
          refine (undoing28 k a s _ hs2).mono ?_
          rintro e w13 ⟨rfl, hb13⟩
          have P2 : Below w11.heap.size w11 w13 := P1.trans ((bvia (by go_grown) hb13).mono P1.size)
          have ho13 := own_below ho12 (bvia (by go_grown) hb13)
          refine hKK.out _ _ ⟨(HF.out _ P2).1, (HF.out _ P2).2.1, (HF.out _ P2).2.2.1, fun _ => (HF.out _ P2).2.2.2⟩ ?_
          clear hKK KK
          try simp only [Act.put, List.setIfInBounds_toArray, List.set_cons_zero, List.set_cons_succ]
          refine wpAnyB_one (i := 9) false rfl (by kernel_rfl) (by kernel_rfl) ?_
          intro KK hKK
          go_simp
          have P3 : Below w11.heap.size w11 (w13.alloc (.cells #[.int .i64 k, .int .i64 a, .string s, .int .i64 k, .int .i64 a, .string (invW s)] 26)) := P2.trans ((show Below w13.heap.size w13 _ by go_grown).mono P2.size)
          refine hKK.out _ _ ⟨(HF.out _ P3).1, (HF.out _ P3).2.1, (HF.out _ P3).2.2.1, fun _ => (HF.out _ P3).2.2.2⟩ ?_
          clear hKK KK
          try simp only [Act.put, List.setIfInBounds_toArray, List.set_cons_zero, List.set_cons_succ]
          refine wpAnyB_one (i := 10) false rfl (by kernel_rfl) (by kernel_rfl) ?_
          intro KK hKK
          refine step_appW rfl (.tmp 142) (.tmp 146) rfl w11.heap.size (.slice A12 j c12) j _ rfl (ho13.alloc _) (some ⟨w13.heap.size, 0, none⟩) 2 2 [⟨k, a, s⟩, undoW ⟨k, a, s⟩] rfl (has_rdW (Has.new rfl)) rfl (by omega) P3.size ?_
          intro A14 c14 w14 ho14 hg14
          have P4 : Below w11.heap.size w11 w14 := P3.grown hg14 P3.size (fun kk hk => (ho12.lt kk hk).1)
          refine hKK.out _ _ ⟨(HF.out _ P4).1, (HF.out _ P4).2.1, (HF.out _ P4).2.2.1, fun _ => (HF.out _ P4).2.2.2⟩ ?_
          clear hKK KK
          try simp only [Act.put, List.setIfInBounds_toArray]
          refine wpAnyB_one (i := 15) false rfl (by kernel_rfl) (by kernel_rfl) ?_
          intro KK hKK
          refine step_appW rfl (.tmp 147) (.tmp 151) rfl w11.heap.size (.slice A14 (j + 2) c14) (j + 2) _ rfl ho14 _ 0 _ [] rfl (RdW.nil _ _ _) rfl (by omega) P4.size ?_
          intro A15 c15 w15 ho15 hg15
          have P5 : Below w11.heap.size w11 w15 := P4.grown hg15 P4.size (fun kk hk => (ho14.lt kk hk).1)
          obtain ⟨nn, hnn⟩ : ∃ nn, nn = j + 2 + 0 := ⟨_, rfl⟩
          rw [← hnn] at ho15 ⊢
          have HNN := Lib.hid hnn
          clear hnn
          have T15 := HT11.out.below P5 HT11.out.lt
          refine hKK.out _ _ ⟨(HF.out _ P5).1, (HF.out _ P5).2.1, (HF.out _ P5).2.2.1, fun _ => (HF.out _ P5).2.2.2⟩ ?_
          clear hKK KK
          try simp only [Act.put]
          refine wpAnyB_one (i := 16) false rfl (by kernel_rfl) (by kernel_rfl) ?_
          intro KK hKK
          go_simp
          refine hKK.out _ _ ⟨(HF.out _ P5).1, (HF.out _ P5).2.1, (HF.out _ P5).2.2.1, fun _ => (HF.out _ P5).2.2.2⟩ ?_
          clear hKK KK
          try simp only [Act.put, List.setIfInBounds_toArray, List.set_cons_zero, List.set_cons_succ]
          refine wpAnyB_one (i := 17) true rfl (by kernel_rfl) (by kernel_rfl) ?_
          intro KK hKK
          have y0 := T15.free 1
          have y1 := T15.lt
          have y2 := T15.two.2
          go_simp
          refine hKK.out _ _ ⟨(World.cell?_setCell_far _ _ _ _ nz7).trans (HF.out _ P5).1, (World.cell?_setCell_far _ _ _ _ nz7).trans (HF.out _ P5).2.1, (World.cell?_setCell_far _ _ _ _ nz7).trans (HF.out _ P5).2.2.1, fun hh => by cases hh⟩ ?_
          clear hKK KK
          try simp only [Act.put, List.setIfInBounds_toArray, List.set_cons_zero, List.set_cons_succ]
          refine wpAnyB_done (by kernel_rfl) (NoPanic.normal ?_) _
          have T16 := T15.set 1 (.slice A15 nn c15)
          have O16 := ownsRow_setCell_below ho15 (a := ⟨gT, 1, none⟩) (by simpa using HT11.out.lt) (.slice A15 nn c15)
          have hcc := own_caps O16
          have B16 : Below w4.heap.size w4 (w15.setCell ⟨gT, 1, none⟩ (.slice A15 nn c15)) := (B11.trans (P5.mono B11.size)).setCell (by simpa using hgT) _
          have okW := schk_zero HC.out
          have okW2 := okW.undo
          have okN := Lib.hid (okL.out.put okW (w := ⟨k, a, s⟩) (j := j) (by rw [HLn.out]; omega))
          have eqL : [] ++ L.take j ++ [(⟨k, a, s⟩ : Wk), undoW ⟨k, a, s⟩] ++ [] = L.take j ++ ⟨k, a, s⟩ :: undoW ⟨k, a, s⟩ :: L.drop j := by rw [List.drop_of_length_le (by rw [HLn.out, HNJ.out]; exact Nat.le_refl _)]; simp
          rw [eqL] at O16
          have lN : (L.take j ++ ⟨k, a, s⟩ :: undoW ⟨k, a, s⟩ :: L.drop j).length = nn := by rw [HNN.out]; simp; have := HLn.out; have := HNJ.out; omega
          have alN : Alike (netL (L.take j ++ ⟨k, a, s⟩ :: undoW ⟨k, a, s⟩ :: L.drop j)) (netL us) := by
            refine (net_pair (L.take j) (L.drop j) (x := ⟨k, a, s⟩) (okW.back _ (by simp))).trans ?_
            rw [List.take_append_drop]; exact HLa.out
          have HO16 := Lib.hid O16; clear O16 ho15
          clear eqL y0 y1 y2 T15
          generalize w15.setCell ⟨gT, 1, none⟩ (.slice A15 nn c15) = w16 at *
          obtain ⟨te0, te1⟩ := T16.two
          have tq1 := T16.lt
          go_wp2_with fail
          refine (netOk NU.out okN.out A15 nn c15 _ (own_rdW HO16.out) lN hcc.1).mono ?_
          rintro e w20 ⟨A20, n20, c20, rfl, r20, l20, m20, o20, hb20⟩
          have b20 : Below w4.heap.size w4 (w20.alloc (.cells #[.int .i64 p, .slice A20 n20 c20] 24)) := B16.trans ((bvia hb20 (by go_grown)).mono B16.size)
          have Y20 : Has (w20.alloc (.cells #[.int .i64 p, .slice A20 n20 c20] 24)) w20.heap.size 24 [.int .i64 p, .slice A20 n20 c20] := Has.new rfl
          have R20 := Lib.hid (r20.up (show Below w20.heap.size w20 (w20.alloc (.cells #[.int .i64 p, .slice A20 n20 c20] 24)) by go_grown)); clear r20 hb20 te0 te1 tq1
          have Y2f := HY.out.below b20 HY.out.lt
          have R2f := Lib.hid (HR.out.up b20)
          obtain ⟨f0, f1⟩ := Y2f.two
          have fq := Y2f.lt
          go_wp2_with fail
          refine (same05 p A2 A20 n2 n20 c2 c20 (netL us) (netL (L.take j ++ ⟨k, a, s⟩ :: undoW ⟨k, a, s⟩ :: L.drop j)) _ R2f.out R20.out l2 l20 U.out.net okN.out.net alN.symm).mono ?_
          rintro e w21 ⟨rfl, hb21⟩
          go_wp2_with fail
          refine (AW.out _).mono ?_
          rintro e w22 ⟨rfl, hb22⟩
          go_wp2
          go_ret
          exact ⟨rfl, bvia (bvia (HW4.trans (b20.mono (Nat.le_of_lt q0'))) hb21) hb22⟩
        · have hcap' : decide (c5 = j) = false := by simpa using hcap
          have hcg : j < c5 := by omega
          refine wp_region_noPanic ?_
          refine wp_region_B (fun b w' => w'.cell? ⟨w.heap.size + 1, 0, none⟩ = some (.int .i64 k) ∧ w'.cell? ⟨w.heap.size + 1, 1, none⟩ = some (.int .i64 a) ∧ w'.cell? ⟨w.heap.size + 1, 2, none⟩ = some (.string s) ∧ (b = false → w'.cell? ⟨gT, 1, none⟩ = some (.slice (some ⟨g5, 0, none⟩) n c5))) 17 (by kernel_rfl) ?_
          have hSSq2b : (fun b w' => w'.cell? ⟨w.heap.size + 1, 0, none⟩ = some (.int .i64 k) ∧ w'.cell? ⟨w.heap.size + 1, 1, none⟩ = some (.int .i64 a) ∧ w'.cell? ⟨w.heap.size + 1, 2, none⟩ = some (.string s) ∧ (b = false → w'.cell? ⟨gT, 1, none⟩ = some (.slice (some ⟨g5, 0, none⟩) n c5))) false (w11.drew) := ⟨u1, u2, u3, fun _ => u4⟩
          refine wpAnyB_take (i := 1) (oi := _) (v := ?vvq2b1) (fun w' => w'.cell? ⟨w.heap.size + 1, 0, none⟩ = some (.int .i64 k) ∧ w'.cell? ⟨w.heap.size + 1, 1, none⟩ = some (.int .i64 a) ∧ w'.cell? ⟨w.heap.size + 1, 2, none⟩ = some (.string s)) rfl (by kernel_rfl) (by kernel_rfl) (by kernel_rfl) (by kernel_rfl) (by rfl) (fun _ h => ⟨h.1, h.2.1, h.2.2.1⟩) (.inl fun _ h => ⟨h.1, h.2.1, h.2.2.1⟩) (fun _ _ _ h => h) (.inl ⟨by rfl, ?hyq2b1⟩) hSSq2b ?_
          case hyq2b1 =>
            intro w' hSw
            try dsimp only at hSw
            go_simp
            all_goals with_reducible rfl
          try simp only [Act.put, List.setIfInBounds_toArray]
          refine wpAnyB_take (i := 2) (oi := _) (v := ?vvq2b2) (fun w' => w'.cell? ⟨w.heap.size + 1, 0, none⟩ = some (.int .i64 k) ∧ w'.cell? ⟨w.heap.size + 1, 1, none⟩ = some (.int .i64 a) ∧ w'.cell? ⟨w.heap.size + 1, 2, none⟩ = some (.string s) ∧ w'.cell? ⟨gT, 1, none⟩ = some (.slice (some ⟨g5, 0, none⟩) n c5)) rfl (by kernel_rfl) (by kernel_rfl) (by kernel_rfl) (by kernel_rfl) (by rfl) (fun _ h => ⟨h.1, h.2.1, h.2.2.1, h.2.2.2 rfl⟩) (.inr (by kernel_rfl)) (fun _ _ _ h => h) (.inl ⟨by rfl, ?hyq2b2⟩) hSSq2b ?_
          case hyq2b2 =>
            intro w' hSw
            try dsimp only at hSw
            go_simp
            all_goals with_reducible rfl
          try simp only [Act.put]
          refine wpAnyB_take (i := 3) (oi := _) (v := ?vvq2b3) (fun w' => w'.cell? ⟨w.heap.size + 1, 0, none⟩ = some (.int .i64 k) ∧ w'.cell? ⟨w.heap.size + 1, 1, none⟩ = some (.int .i64 a) ∧ w'.cell? ⟨w.heap.size + 1, 2, none⟩ = some (.string s)) rfl (by kernel_rfl) (by kernel_rfl) (by kernel_rfl) (by kernel_rfl) (by rfl) (fun _ h => ⟨h.1, h.2.1, h.2.2.1⟩) (.inl fun _ h => ⟨h.1, h.2.1, h.2.2.1⟩) (fun _ _ _ h => h) (.inl ⟨by rfl, ?hyq2b3⟩) hSSq2b ?_
          case hyq2b3 =>
            intro w' hSw
            try dsimp only at hSw
            go_simp
            all_goals with_reducible rfl
          try simp only [Act.put]
          refine wpAnyB_take (i := 4) (oi := _) (v := ?vvq2b4) (fun w' => w'.cell? ⟨w.heap.size + 1, 0, none⟩ = some (.int .i64 k) ∧ w'.cell? ⟨w.heap.size + 1, 1, none⟩ = some (.int .i64 a) ∧ w'.cell? ⟨w.heap.size + 1, 2, none⟩ = some (.string s)) rfl (by kernel_rfl) (by kernel_rfl) (by kernel_rfl) (by kernel_rfl) (by rfl) (fun _ h => ⟨h.1, h.2.1, h.2.2.1⟩) (.inl fun _ h => ⟨h.1, h.2.1, h.2.2.1⟩) (fun _ _ _ h => h) (.inl ⟨by rfl, ?hyq2b4⟩) hSSq2b ?_
          case hyq2b4 =>
            intro w' hSw
            try dsimp only at hSw
            go_simp
            all_goals with_reducible rfl
          try simp only [Act.put]
          refine wpAnyB_take (i := 6) (oi := _) (v := ?vvq2b5) (fun w' => w'.cell? ⟨w.heap.size + 1, 0, none⟩ = some (.int .i64 k) ∧ w'.cell? ⟨w.heap.size + 1, 1, none⟩ = some (.int .i64 a) ∧ w'.cell? ⟨w.heap.size + 1, 2, none⟩ = some (.string s)) rfl (by kernel_rfl) (by kernel_rfl) (by kernel_rfl) (by kernel_rfl) (by rfl) (fun _ h => ⟨h.1, h.2.1, h.2.2.1⟩) (.inl fun _ h => ⟨h.1, h.2.1, h.2.2.1⟩) (fun _ _ _ h => h) (.inl ⟨by rfl, ?hyq2b5⟩) hSSq2b ?_
          case hyq2b5 =>
            intro w' hSw
            try dsimp only at hSw
            go_simp
            all_goals with_reducible rfl
          try simp only [Act.put]
          refine wpAnyB_take (i := 7) (oi := _) (v := ?vvq2b6) (fun w' => w'.cell? ⟨w.heap.size + 1, 0, none⟩ = some (.int .i64 k) ∧ w'.cell? ⟨w.heap.size + 1, 1, none⟩ = some (.int .i64 a) ∧ w'.cell? ⟨w.heap.size + 1, 2, none⟩ = some (.string s)) rfl (by kernel_rfl) (by kernel_rfl) (by kernel_rfl) (by kernel_rfl) (by rfl) (fun _ h => ⟨h.1, h.2.1, h.2.2.1⟩) (.inl fun _ h => ⟨h.1, h.2.1, h.2.2.1⟩) (fun _ _ _ h => h) (.inl ⟨by rfl, ?hyq2b6⟩) hSSq2b ?_
          case hyq2b6 =>
            intro w' hSw
            try dsimp only at hSw
            go_simp
            all_goals with_reducible rfl
          try simp only [Act.put]
          refine wpAnyB_take (i := 11) (oi := _) (v := ?vvq2b7) (fun w' => w'.cell? ⟨w.heap.size + 1, 0, none⟩ = some (.int .i64 k) ∧ w'.cell? ⟨w.heap.size + 1, 1, none⟩ = some (.int .i64 a) ∧ w'.cell? ⟨w.heap.size + 1, 2, none⟩ = some (.string s)) rfl (by kernel_rfl) (by kernel_rfl) (by kernel_rfl) (by kernel_rfl) (by rfl) (fun _ h => ⟨h.1, h.2.1, h.2.2.1⟩) (.inl fun _ h => ⟨h.1, h.2.1, h.2.2.1⟩) (fun _ _ _ h => h) (.inl ⟨by rfl, ?hyq2b7⟩) hSSq2b ?_
          case hyq2b7 =>
            intro w' hSw
            try dsimp only at hSw
            go_simp
            all_goals with_reducible rfl
          try simp only [Act.put]
          refine wpAnyB_take (i := 12) (oi := _) (v := ?vvq2b8) (fun w' => w'.cell? ⟨w.heap.size + 1, 0, none⟩ = some (.int .i64 k) ∧ w'.cell? ⟨w.heap.size + 1, 1, none⟩ = some (.int .i64 a) ∧ w'.cell? ⟨w.heap.size + 1, 2, none⟩ = some (.string s) ∧ w'.cell? ⟨gT, 1, none⟩ = some (.slice (some ⟨g5, 0, none⟩) n c5)) rfl (by kernel_rfl) (by kernel_rfl) (by kernel_rfl) (by kernel_rfl) (by rfl) (fun _ h => ⟨h.1, h.2.1, h.2.2.1, h.2.2.2 rfl⟩) (.inr (by kernel_rfl)) (fun _ _ _ h => h) (.inl ⟨by rfl, ?hyq2b8⟩) hSSq2b ?_
          case hyq2b8 =>
            intro w' hSw
            try dsimp only at hSw
            go_simp
            all_goals with_reducible rfl
          try simp only [Act.put]
          refine wpAnyB_take (i := 13) (oi := _) (v := ?vvq2b9) (fun w' => w'.cell? ⟨w.heap.size + 1, 0, none⟩ = some (.int .i64 k) ∧ w'.cell? ⟨w.heap.size + 1, 1, none⟩ = some (.int .i64 a) ∧ w'.cell? ⟨w.heap.size + 1, 2, none⟩ = some (.string s)) rfl (by kernel_rfl) (by kernel_rfl) (by kernel_rfl) (by kernel_rfl) (by rfl) (fun _ h => ⟨h.1, h.2.1, h.2.2.1⟩) (.inl fun _ h => ⟨h.1, h.2.1, h.2.2.1⟩) (fun _ _ _ h => h) (.inl ⟨by rfl, ?hyq2b9⟩) hSSq2b ?_
          case hyq2b9 =>
            intro w' hSw
            try dsimp only at hSw
            go_simp
            all_goals with_reducible rfl
          try simp only [Act.put]
          refine wpAnyB_take (i := 14) (oi := _) (v := ?vvq2b10) (fun w' => w'.cell? ⟨w.heap.size + 1, 0, none⟩ = some (.int .i64 k) ∧ w'.cell? ⟨w.heap.size + 1, 1, none⟩ = some (.int .i64 a) ∧ w'.cell? ⟨w.heap.size + 1, 2, none⟩ = some (.string s)) rfl (by kernel_rfl) (by kernel_rfl) (by kernel_rfl) (by kernel_rfl) (by rfl) (fun _ h => ⟨h.1, h.2.1, h.2.2.1⟩) (.inl fun _ h => ⟨h.1, h.2.1, h.2.2.1⟩) (fun _ _ _ h => h) (.inl ⟨by rfl, ?hyq2b10⟩) hSSq2b ?_
          case hyq2b10 =>
            intro w' hSw
            try dsimp only at hSw
            go_simp
            all_goals with_reducible rfl
          try simp only [Act.put]
          refine wpAnyB_one (i := 0) false rfl (by kernel_rfl) (by kernel_rfl) ?_
          intro KK hKK
          go_simp
          have P0 : Below w11.heap.size w11 (w11.alloc (.cells #[] 26)) := by go_grown
          refine hKK.out _ _ ⟨(HF.out _ P0).1, (HF.out _ P0).2.1, (HF.out _ P0).2.2.1, fun _ => (HF.out _ P0).2.2.2⟩ ?_
          clear hKK KK
          try simp only [Act.put, List.setIfInBounds_toArray, List.set_cons_zero, List.set_cons_succ]
          refine wpAnyB_one (i := 5) false rfl (by kernel_rfl) (by kernel_rfl) ?_
          intro KK hKK
          refine step_appW rfl (.tmp 137) (.tmp 141) rfl w11.heap.size (.slice (some ⟨w11.heap.size, 0, none⟩) 0 0) 0 [] rfl (own_lit0 (Nat.le_refl _)) (some ⟨g5, 0, none⟩) j c5 (L.take j) rfl ((rdW_take (has_rdW' (HG11.out.below P0 HG11.out.lt)) j)) (by rw [List.length_take, HLn.out]; omega) (by omega) (by simp) ?_
          intro A12 c12 w12 ho12 hg12
          rw [Nat.zero_add] at ho12 ⊢
          have P1 : Below w11.heap.size w11 w12 := P0.drew.grown hg12 (by simp) (fun kk hk => by simp [Value.ownBlock] at hk; omega)
          refine hKK.out _ _ ⟨(HF.out _ P1).1, (HF.out _ P1).2.1, (HF.out _ P1).2.2.1, fun _ => (HF.out _ P1).2.2.2⟩ ?_
          clear hKK KK
          try simp only [Act.put, List.setIfInBounds_toArray]
          refine wpAnyB_one (i := 8) false rfl (by kernel_rfl) (by kernel_rfl) ?_
          intro KK hKK
          go_simp
          go_at_call 21
          refine (undoing28 k a s _ hs2).mono ?_
          rintro e w13 ⟨rfl, hb13⟩
          have P2 : Below w11.heap.size w11 w13 := P1.trans ((bvia (by go_grown) hb13).mono P1.size)
          have ho13 := own_below ho12 (bvia (by go_grown) hb13)
          refine hKK.out _ _ ⟨(HF.out _ P2).1, (HF.out _ P2).2.1, (HF.out _ P2).2.2.1, fun _ => (HF.out _ P2).2.2.2⟩ ?_
          clear hKK KK
          try simp only [Act.put, List.setIfInBounds_toArray, List.set_cons_zero, List.set_cons_succ]
          refine wpAnyB_one (i := 9) false rfl (by kernel_rfl) (by kernel_rfl) ?_
          intro KK hKK
          go_simp
          have P3 : Below w11.heap.size w11 (w13.alloc (.cells #[.int .i64 k, .int .i64 a, .string s, .int .i64 k, .int .i64 a, .string (invW s)] 26)) := P2.trans ((show Below w13.heap.size w13 _ by go_grown).mono P2.size)
          refine hKK.out _ _ ⟨(HF.out _ P3).1, (HF.out _ P3).2.1, (HF.out _ P3).2.2.1, fun _ => (HF.out _ P3).2.2.2⟩ ?_
          clear hKK KK
          try simp only [Act.put, List.setIfInBounds_toArray, List.set_cons_zero, List.set_cons_succ]
          refine wpAnyB_one (i := 10) false rfl (by kernel_rfl) (by kernel_rfl) ?_
          intro KK hKK
          refine step_appW rfl (.tmp 142) (.tmp 146) rfl w11.heap.size (.slice A12 j c12) j _ rfl (ho13.alloc _) (some ⟨w13.heap.size, 0, none⟩) 2 2 [⟨k, a, s⟩, undoW ⟨k, a, s⟩] rfl (has_rdW (Has.new rfl)) rfl (by omega) P3.size ?_
          intro A14 c14 w14 ho14 hg14
          have P4 : Below w11.heap.size w11 w14 := P3.grown hg14 P3.size (fun kk hk => (ho12.lt kk hk).1)
          refine hKK.out _ _ ⟨(HF.out _ P4).1, (HF.out _ P4).2.1, (HF.out _ P4).2.2.1, fun _ => (HF.out _ P4).2.2.2⟩ ?_
          clear hKK KK
          try simp only [Act.put, List.setIfInBounds_toArray]
          refine wpAnyB_one (i := 15) false rfl (by kernel_rfl) (by kernel_rfl) ?_
          intro KK hKK
          refine step_appW rfl (.tmp 147) (.tmp 151) rfl w11.heap.size (.slice A14 (j + 2) c14) (j + 2) _ rfl ho14 _ (n - j) _ (L.drop j) rfl (rdW_drop (has_rdW' (HG11.out.below P4 HG11.out.lt)) j) (by rw [List.length_drop, HLn.out]) (by omega) P4.size ?_
          intro A15 c15 w15 ho15 hg15
          have P5 : Below w11.heap.size w11 w15 := P4.grown hg15 P4.size (fun kk hk => (ho14.lt kk hk).1)
          obtain ⟨nn, hnn⟩ : ∃ nn, nn = j + 2 + (n - j) := ⟨_, rfl⟩
          rw [← hnn] at ho15 ⊢
          have HNN := Lib.hid hnn
          clear hnn
          have T15 := HT11.out.below P5 HT11.out.lt
          refine hKK.out _ _ ⟨(HF.out _ P5).1, (HF.out _ P5).2.1, (HF.out _ P5).2.2.1, fun _ => (HF.out _ P5).2.2.2⟩ ?_
          clear hKK KK
          try simp only [Act.put]
          refine wpAnyB_one (i := 16) false rfl (by kernel_rfl) (by kernel_rfl) ?_
          intro KK hKK
          go_simp
          refine hKK.out _ _ ⟨(HF.out _ P5).1, (HF.out _ P5).2.1, (HF.out _ P5).2.2.1, fun _ => (HF.out _ P5).2.2.2⟩ ?_
          clear hKK KK
          try simp only [Act.put, List.setIfInBounds_toArray, List.set_cons_zero, List.set_cons_succ]
          refine wpAnyB_one (i := 17) true rfl (by kernel_rfl) (by kernel_rfl) ?_
          intro KK hKK
          have y0 := T15.free 1
          have y1 := T15.lt
          have y2 := T15.two.2
          go_simp
          refine hKK.out _ _ ⟨(World.cell?_setCell_far _ _ _ _ nz7).trans (HF.out _ P5).1, (World.cell?_setCell_far _ _ _ _ nz7).trans (HF.out _ P5).2.1, (World.cell?_setCell_far _ _ _ _ nz7).trans (HF.out _ P5).2.2.1, fun hh => by cases hh⟩ ?_
          clear hKK KK
          try simp only [Act.put, List.setIfInBounds_toArray, List.set_cons_zero, List.set_cons_succ]
          refine wpAnyB_done (by kernel_rfl) (NoPanic.normal ?_) _
          have T16 := T15.set 1 (.slice A15 nn c15)
          have O16 := ownsRow_setCell_below ho15 (a := ⟨gT, 1, none⟩) (by simpa using HT11.out.lt) (.slice A15 nn c15)
          have hcc := own_caps O16
          have B16 : Below w4.heap.size w4 (w15.setCell ⟨gT, 1, none⟩ (.slice A15 nn c15)) := (B11.trans (P5.mono B11.size)).setCell (by simpa using hgT) _
          have okW := schk_zero HC.out
          have okW2 := okW.undo
          have okN := Lib.hid (okL.out.put okW (w := ⟨k, a, s⟩) (j := j) (by rw [HLn.out]; omega))
          have eqL : [] ++ L.take j ++ [(⟨k, a, s⟩ : Wk), undoW ⟨k, a, s⟩] ++ (L.drop j) = L.take j ++ ⟨k, a, s⟩ :: undoW ⟨k, a, s⟩ :: L.drop j := by simp
          rw [eqL] at O16
          have lN : (L.take j ++ ⟨k, a, s⟩ :: undoW ⟨k, a, s⟩ :: L.drop j).length = nn := by rw [HNN.out]; simp; have := HLn.out; omega
          have alN : Alike (netL (L.take j ++ ⟨k, a, s⟩ :: undoW ⟨k, a, s⟩ :: L.drop j)) (netL us) := by
            refine (net_pair (L.take j) (L.drop j) (x := ⟨k, a, s⟩) (okW.back _ (by simp))).trans ?_
            rw [List.take_append_drop]; exact HLa.out
          have HO16 := Lib.hid O16; clear O16 ho15
          clear eqL y0 y1 y2 T15
          generalize w15.setCell ⟨gT, 1, none⟩ (.slice A15 nn c15) = w16 at *
          obtain ⟨te0, te1⟩ := T16.two
          have tq1 := T16.lt
          go_wp2_with fail
          refine (netOk NU.out okN.out A15 nn c15 _ (own_rdW HO16.out) lN hcc.1).mono ?_
          rintro e w20 ⟨A20, n20, c20, rfl, r20, l20, m20, o20, hb20⟩
          have b20 : Below w4.heap.size w4 (w20.alloc (.cells #[.int .i64 p, .slice A20 n20 c20] 24)) := B16.trans ((bvia hb20 (by go_grown)).mono B16.size)
          have Y20 : Has (w20.alloc (.cells #[.int .i64 p, .slice A20 n20 c20] 24)) w20.heap.size 24 [.int .i64 p, .slice A20 n20 c20] := Has.new rfl
          have R20 := Lib.hid (r20.up (show Below w20.heap.size w20 (w20.alloc (.cells #[.int .i64 p, .slice A20 n20 c20] 24)) by go_grown)); clear r20 hb20 te0 te1 tq1
          have Y2f := HY.out.below b20 HY.out.lt
          have R2f := Lib.hid (HR.out.up b20)
          obtain ⟨f0, f1⟩ := Y2f.two
          have fq := Y2f.lt
          go_wp2_with fail
          refine (same05 p A2 A20 n2 n20 c2 c20 (netL us) (netL (L.take j ++ ⟨k, a, s⟩ :: undoW ⟨k, a, s⟩ :: L.drop j)) _ R2f.out R20.out l2 l20 U.out.net okN.out.net alN.symm).mono ?_
          rintro e w21 ⟨rfl, hb21⟩
          go_wp2_with fail
          refine (AW.out _).mono ?_
          rintro e w22 ⟨rfl, hb22⟩
          go_wp2
          go_ret
          exact ⟨rfl, bvia (bvia (HW4.trans (b20.mono (Nat.le_of_lt q0'))) hb21) hb22⟩
end Go.Proofs.Ytnjenggijmbhcaa
