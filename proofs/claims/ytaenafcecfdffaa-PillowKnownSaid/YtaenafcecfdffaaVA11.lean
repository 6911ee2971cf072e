/-
  Contract of chapter 16: the pillow's method Cloth.
-/
import Derived.Test.YtaenafcecfdffaaVA2
import Derived.Test.YtaenafcecfdffaaVA9
import Derived.Test.YtaenafcecfdffaaVA10
namespace Go.Proofs.Ytaenafcecfdffaa
open Go.RowKit
theorem wp_region_join {P : Program} {id : Nat} {ops : Array Oper} {b : Bool} {Q : Exit → Act → World → Prop} {a : Act} {w : World} (R : Act → Act → World → Prop)
    (h1 : (Code.region id ops b).wp P (fun e a' w' => e = .normal ∧ R a a' w') a w) (h2 : ∀ a' w', R a a' w' → Q .normal a' w') : (Code.region id ops b).wp P Q a w :=
  Code.wp_mono (fun e a' w' ⟨he, hr⟩ => by rw [he]; exact h2 a' w' hr) h1
theorem rdQ_from {w : World} {B : Nat} {A : Option Addr} {ws : List Q4} (h : RdQ w B A ws) (hn : 0 < ws.length) : ∃ b o, A = some ⟨b, o, none⟩ ∧ b < B ∧ ∀ j v, (qsC ws)[j]? = some v → w.cell? ((⟨b, o, none⟩ : Addr).add j) = some v := by
  obtain ⟨x0, hx0⟩ := get_of_lt hn
  obtain ⟨b, o, rfl, hb, _⟩ := h 0 x0 hx0
  refine ⟨b, o, rfl, hb, fun j v hv => ?_⟩
  have hj := lt_of_get hv
  rw [qsC_len] at hj
  obtain ⟨x, hx⟩ := get_of_lt (l := ws) (k := j / 4) (by omega)
  obtain ⟨e1, e2, e3, e4⟩ := qsC_get hx
  obtain ⟨b2, o2, hA, _, c0, c1, c2, c3⟩ := h _ x hx
  injection hA with hA
  injection hA with h1 h2
  subst h1; subst h2
  rw [Addr.add_lit]
  have hm : j % 4 = 0 ∨ j % 4 = 1 ∨ j % 4 = 2 ∨ j % 4 = 3 := by omega
  rcases hm with hm | hm | hm | hm
  · have : j = j / 4 * 4 := by omega
    rw [this] at hv ⊢
    rw [e1] at hv; rw [← hv]; exact c0
  · have : j = j / 4 * 4 + 1 := by omega
    rw [this] at hv ⊢
    rw [e2] at hv; rw [← hv]; exact c1
  · have : j = j / 4 * 4 + 2 := by omega
    rw [this] at hv ⊢
    rw [e3] at hv; rw [← hv]; exact c2
  · have : j = j / 4 * 4 + 3 := by omega
    rw [this] at hv ⊢
    rw [e4] at hv; rw [← hv]; exact c3
theorem one_qs (ws : List Q4) : ∀ u ∈ qsC ws, u.oneCell' = true := fun u hu => by
  unfold qsC at hu
  obtain ⟨x, _, hx⟩ := List.mem_flatMap.1 hu
  simp only [q4C, List.mem_cons, List.not_mem_nil, or_false] at hx
  rcases hx with rfl | rfl | rfl | rfl <;> rfl
theorem wpList_appQ {w : World} {ops : Array Oper} {rest : List Oper} {o : Oper} {a : Act} {Q : Exit → Act → World → Prop} (hgd : o.guard = none) (s x : Operand)
    (ho : o.op = .call { callee := .builtin .append, args := #[s, x], argTypes := #[40, 40] })
    (base : Nat) (v : Value) (n : Nat) (xs : List Q4) (hs : a.eval s = v) (hown : w.ownsRow base 47 4 v n (qsC xs))
    (A : Option Addr) (m c : Nat) (ws : List Q4) (hx : a.eval x = .slice A m c) (hr : RdQ w w.heap.size A ws) (hl : ws.length = m)
    (hn : n + m ≤ 1000000000) (hbase : base ≤ w.heap.size)
    (h : ∀ A' c' w', w'.ownsRow base 47 4 (.slice A' (n + m) c') (n + m) (qsC (xs ++ ws)) → w.grownBy w' v.ownBlock → wpList Try.prog ops Q rest (a.put o.dst (.slice A' (n + m) c')) w') :
    wpList Try.prog ops Q (o :: rest) a w := by
  have happ : qsC xs ++ qsC ws = qsC (xs ++ ws) := by simp [qsC]
  refine wpList_plain hgd fun K hK => ?_
  cases A with
  | none =>
    have hw0 : ws = [] := by
      cases ws with
      | nil => rfl
      | cons y ws => obtain ⟨b, o', e, _⟩ := hr 0 y rfl; cases e
    subst hw0
    obtain rfl : 0 = m := hl
    obtain ⟨B, d, rfl⟩ := own_form hown
    obtain ⟨i, hi, hz, hsize, hb⟩ := info_parts infoCrs
    have hcc := own_caps hown
    have hrun := run_app0 (P := Try.prog) w 40 o.type 47 i Try.underlying40 hi B n d c hcc.1
    unfold Oper.wp execOp
    simp only [ho, resolve, invoke, builtin, Sem.run_bind, Sem.run_pure, Result.andThen_ok, List.map_toArray, List.map_cons, List.map_nil, hs, hx, hrun]
    exact hK _ _ (h B d w (by rw [List.append_nil]; exact hown) ⟨rfl, rfl, rfl, Nat.le_refl _, fun _ _ _ => rfl⟩)
  | some ad =>
    refine wp_appN s x 40 ho base 47 (.agg #[.int .i64 0, .int .i64 0, .int .i64 0, .int .i64 0]) 4 32 Try.underlying40 infoCrs rfl (by omega) (by omega) v n (qsC xs) hs hown ad m c (qsC ws) hx (by rw [qsC_len, hl]) ?_ (one_qs ws) hn hbase ?_
    · cases ws with
      | nil => intro j u hu; simp [qsC] at hu
      | cons y ws =>
        obtain ⟨b, o', e, hb, hc⟩ := rdQ_from hr (by simp)
        injection e with e
        subst e
        exact hc
    · intro v' w' hown' hgrow' _ _
      obtain ⟨A', c', rfl⟩ := own_form hown'
      exact hK _ _ (h A' c' w' (by rw [← happ]; exact hown') hgrow')
set_option maxRecDepth 100000 in
theorem cloneQ (A : Option Addr) (n c : Nat) (ds : List Q4) (w : World) (hr : RdQ w w.heap.size A ds) (hl : ds.length = n) (hn : n ≤ 1000000000) :
    Calls Try.prog 39 #[.slice A n c] w fun e w' => ∃ A n c, e = .returned (.slice A n c) ∧ w'.ownsRow w.heap.size 47 4 (.slice A n c) n (qsC ds) ∧ ds.length = n ∧ Below w.heap.size w w' := by
  have HR := Lib.hid hr; clear hr
  cases A with
  | none =>
    have h0 : ds = [] := by
      cases ds with
      | nil => rfl
      | cons y ws => obtain ⟨b, o', e, _⟩ := HR.out 0 y rfl; cases e
    subst h0
    have E := fun W => run_eqlnil (P := Try.prog) W 40 47 none n c Try.underlying40
    simp only [Option.isNone_none] at E
    obtain rfl : 0 = n := hl
    go_enter Try.func39, Try.ntmps39
    go_wp2
    go_ret
    exact ⟨none, 0, 0, rfl, World.ownsRow_nil _ _ _ _, rfl, Below.refl _ _⟩
  | some ad =>
    have E := fun W => run_eqlnil (P := Try.prog) W 40 47 (some ad) n c Try.underlying40
    simp only [Option.isNone_some] at E
    go_enter Try.func39, Try.ntmps39
    go_wp2_with (at_builtin; refine wpList_appQ rfl (.tmp 5) (.tmp 6) rfl w.heap.size (.slice (some ⟨w.heap.size, 0, none⟩) 0 0) 0 [] rfl (own_lit0 (Nat.le_refl _)) (some ad) n c ds rfl (HR.out.up (by go_grown)) hl (by omega) (by simp) ?_)
    intro A' c' w' hown hgrow
    have hb : Below w.heap.size w w' := ((Below.refl _ w).alloc (Nat.le_refl _) (.cells #[] 47)).grown hgrow (by simp) (fun k hk => by simp [Value.ownBlock] at hk; omega)
    have HO := Lib.hid hown; clear hown
    go_wp2
    go_ret
    exact ⟨A', n, c', by simp, by simpa using HO.out, hl, hb⟩
theorem infoPn16 : (Try.prog.info? 56).map (fun i => (i.zero, i.size, i.bytes)) = some (some (.agg #[.int .i64 0, .int .i64 0, .int .i64 0, .int .i64 0]), 4, 32) := by kernel_rfl
def clRows (X P : Value) (xs ps : List Q4) : List RowD := [⟨47, 4, X, xs.length, qsC xs⟩, ⟨56, 4, P, ps.length, qsC ps⟩]
theorem clRows_new {W : World} {B g : Nat} {t : Int} {X : Value} {xs : List Q4} (hB : B ≤ g) (hc : Has W g 43 [.int .i64 t, X, .slice none 0 0]) (ho : W.ownsRow B 47 4 X xs.length (qsC xs)) : RowsH W B g 43 [.int .i64 t] (clRows X (.slice none 0 0) xs []) := by
  refine ⟨hc, ?_, rows_d (by simp [clRows]), rows_t (by simp [clRows]), hB, Nat.le_trans hB (Nat.le_of_lt hc.lt)⟩
  intro i r hi
  have hm := mem_of_get hi
  simp only [clRows, List.mem_cons, List.not_mem_nil, or_false] at hm
  rcases hm with rfl | rfl
  · exact ho
  · exact World.ownsRow_nil _ _ _ _
theorem clRows_pin (X P P' : Value) (xs ps : List Q4) (q : Q4) : clRows X P' xs (ps ++ [q]) = (clRows X P xs ps).set 1 ⟨56, 4, P', ps.length + 1, qsC ps ++ q4C q⟩ := by
  simp [clRows, qsC_app]
/-- an ending: a cloth -/
def RetCl (t : Int) (xs ps : List Q4) (w : World) (e : Ending) (w' : World) : Prop := ∃ A n c D m d, e = .returned (vCloth t A n c D m d) ∧ RdQ w' w'.heap.size A xs ∧ RdQ w' w'.heap.size D ps ∧ xs.length = n ∧ ps.length = m ∧ Below w.heap.size w w'
/-- as RetCl, and both slices are rows of the call's own -/
def RetClO (t : Int) (xs ps : List Q4) (w : World) (e : Ending) (w' : World) : Prop := ∃ A n c D m d, e = .returned (vCloth t A n c D m d) ∧ w'.ownsRow (w.heap.size + 1) 47 4 (.slice A n c) n (qsC xs) ∧ w'.ownsRow (w.heap.size + 1) 56 4 (.slice D m d) m (qsC ps) ∧ xs.length = n ∧ ps.length = m ∧ Below w.heap.size w w'
set_option maxRecDepth 100000 in
set_option maxHeartbeats 8000000 in
theorem clothCO (B g : Nat) (p s : Int) (z : Pil) (S M V L X P : Value) (W : World) (h : PilH W B g p s z S M V L X P) (hp : 0 < p ∧ p ≤ 24) (hn : z.xs.length ≤ 1000000) (hn2 : z.ps.length ≤ 1000000) :
    Calls Try.prog 15 #[.pointer (some ⟨g, 0, none⟩)] W (RetClO (2 * p) z.xs (z.ps.map Pn.q) W) := by
  have o4 : W.ownsRow B 47 4 X z.xs.length (qsC z.xs) := h.o 4 _ rfl
  have o5 : W.ownsRow B 91 6 P z.ps.length (pnsC z.ps) := h.o 5 _ rfl
  obtain ⟨XA, xc, rfl⟩ := own_form o4
  obtain ⟨PA, pc, rfl⟩ := own_form o5
  have RX := Lib.hid (own_rdQ o4)
  have O5 := Lib.hid o5
  have h1 := RowsH.below h ((Below.refl W.heap.size W).alloc (Nat.le_refl _) (.cells #[.int .i64 0, .slice none 0 0, .slice none 0 0] 43))
  have K1 : Has (W.alloc (.cells #[.int .i64 0, .slice none 0 0, .slice none 0 0] 43)) W.heap.size 43 [.int .i64 0, .slice none 0 0, .slice none 0 0] := Has.new rfl
  have BA := Lib.hid (show Below W.heap.size W (W.alloc (.cells #[.int .i64 0, .slice none 0 0, .slice none 0 0] 43)) by go_grown)
  have a0 : (W.alloc (.cells #[.int .i64 0, .slice none 0 0, .slice none 0 0] 43)).cell? ⟨g, 0, none⟩ = some (.int .i64 p) := RowsH.cell h1 0
  have a7 : (W.alloc (.cells #[.int .i64 0, .slice none 0 0, .slice none 0 0] 43)).cell? ⟨g, 7, none⟩ = some (.slice XA z.xs.length xc) := RowsH.cell h1 7
  have CM := Lib.hid (madeC g p _ hp.1 a0)
  have hg := h.c.lt
  have z1 : (W.alloc (.cells #[.int .i64 0, .slice none 0 0, .slice none 0 0] 43)).heap.size = W.heap.size + 1 := by simp
  have i1 : IntKind.i64.wrap (2 * p) = 2 * p := IntWalk.i64_in _ (by omega)
  have HA0 := Lib.hid a0
  have HA7 := Lib.hid a7
  have H1 := Lib.hid h1
  have HW0 : Hid (W.cell? ⟨g, 0, none⟩ = some (.int .i64 p)) := RowsH.cell h 0
  have HW7 : Hid (W.cell? ⟨g, 7, none⟩ = some (.slice XA z.xs.length xc)) := RowsH.cell h 7
  have CC := Lib.hid (fun (W' : World) (hb : Below W.heap.size W W') => cloneQ XA z.xs.length xc z.xs W' (RX.out.up hb) rfl (by omega))
  have ngk : g ≠ W.heap.size := by omega
  have ngk2 : W.heap.size ≠ g := by omega
  clear h o4 o5 h1
  go_enter Try.func15, Try.ntmps15
  go_wp2_with fail
  refine CM.out.mono ?_
  rintro e w1 ⟨rfl, rfl⟩
  have K1' := Lib.hid K1
  clear K1 CM
  go_wp2
  obtain ⟨W1, hW1⟩ : ∃ W1, W1 = W.alloc (.cells #[.int .i64 0, .slice none 0 0, .slice none 0 0] 43) := ⟨_, rfl⟩
  rw [← hW1] at K1' BA a0 a7 HA0 HA7 H1 z1 ⊢
  clear hW1
  have hz1 : W.heap.size ≤ W1.heap.size := by omega
  have hne1 : g ≠ W1.heap.size := by omega
  have F : Hid (∀ W', Below (W.heap.size + 1) W1 W' → W'.cell? ⟨g, 0, none⟩ = some (.int .i64 p) ∧ W'.cell? ⟨g, 7, none⟩ = some (.slice XA z.xs.length xc)) := fun W' hb => ⟨(hb.cell (p := ⟨g, 0, none⟩) (Nat.lt_succ_of_lt hg)).trans HA0.out, (hb.cell (p := ⟨g, 7, none⟩) (Nat.lt_succ_of_lt hg)).trans HA7.out⟩
  refine wp_region_join (fun a' a'' W' => ∃ g3 A2 c2, a'' = ((((((((((((a'.put (some 10) (.pointer (some ⟨g, 0, none⟩))).put (some 11) (.pointer (some ⟨g, 0, none⟩))).put (some 12) (.pointer (some ⟨g, 0, none⟩))).put (some 13) (.int .i64 p)).put (some 14) (.int .i64 (2 * p))).put (some 15) (.pointer (some ⟨g, 0, none⟩))).put (some 16) (.pointer (some ⟨g, 0, none⟩))).put (some 17) (.pointer (some ⟨g, 7, none⟩))).put (some 18) (.slice XA z.xs.length xc)).put (some 19) (.slice A2 z.xs.length c2)).put (some 20) (.agg #[.int .i64 (2 * p), .slice A2 z.xs.length c2, .slice none 0 0])).put (some 3) (.pointer (some ⟨g3, 0, none⟩))) ∧ Has W' g3 43 [.int .i64 (2 * p), .slice A2 z.xs.length c2, .slice none 0 0] ∧ W'.ownsRow (W.heap.size + 1) 47 4 (.slice A2 z.xs.length c2) z.xs.length (qsC z.xs) ∧ W.heap.size + 1 ≤ g3 ∧ Below (W.heap.size + 1) W1 W') ?_ ?_
  · refine wp_region_noPanic ?_
    refine wp_region_B (fun b w' => w'.cell? ⟨g, 0, none⟩ = some (.int .i64 p) ∧ w'.cell? ⟨g, 7, none⟩ = some (.slice XA z.xs.length xc) ∧ (b = false → True)) 12 (by kernel_rfl) ?_
    have Bd : Below (W.heap.size + 1) W1 W1.drew := (Below.refl _ _).drew
    have zd : W.heap.size + 1 ≤ W1.drew.heap.size := Nat.le_of_eq z1.symm
    generalize W1.drew = Wd at *
    refine wpAnyB_take (i := 0) (oi := _) (v := ?vvtq1) (fun w' => w'.cell? ⟨g, 0, none⟩ = some (.int .i64 p) ∧ w'.cell? ⟨g, 7, none⟩ = some (.slice XA z.xs.length xc)) rfl (by kernel_rfl) (by kernel_rfl) (by kernel_rfl) (by kernel_rfl) (by rfl) (fun _ h => ⟨h.1, h.2.1⟩) (.inl fun _ h => ⟨h.1, h.2.1⟩) (fun _ _ _ h => h) (.inl ⟨by rfl, ?hytq1⟩) ⟨(F.out _ Bd).1, (F.out _ Bd).2, fun _ => trivial⟩ ?_
    case hytq1 =>
      intro w' hSw
      try dsimp only at hSw
      go_simp
      all_goals with_reducible rfl
    try simp only [Act.put, List.setIfInBounds_toArray, List.set_cons_zero, List.set_cons_succ]
    refine wpAnyB_take (i := 1) (oi := _) (v := ?vvtq2) (fun w' => w'.cell? ⟨g, 0, none⟩ = some (.int .i64 p) ∧ w'.cell? ⟨g, 7, none⟩ = some (.slice XA z.xs.length xc)) rfl (by kernel_rfl) (by kernel_rfl) (by kernel_rfl) (by kernel_rfl) (by rfl) (fun _ h => ⟨h.1, h.2.1⟩) (.inl fun _ h => ⟨h.1, h.2.1⟩) (fun _ _ _ h => h) (.inl ⟨by rfl, ?hytq2⟩) ⟨(F.out _ Bd).1, (F.out _ Bd).2, fun _ => trivial⟩ ?_
    case hytq2 =>
      intro w' hSw
      try dsimp only at hSw
      go_simp
      all_goals with_reducible rfl
    try simp only [Act.put, List.setIfInBounds_toArray, List.set_cons_zero, List.set_cons_succ]
    refine wpAnyB_take (i := 2) (oi := _) (v := ?vvtq3) (fun w' => w'.cell? ⟨g, 0, none⟩ = some (.int .i64 p) ∧ w'.cell? ⟨g, 7, none⟩ = some (.slice XA z.xs.length xc)) rfl (by kernel_rfl) (by kernel_rfl) (by kernel_rfl) (by kernel_rfl) (by rfl) (fun _ h => ⟨h.1, h.2.1⟩) (.inl fun _ h => ⟨h.1, h.2.1⟩) (fun _ _ _ h => h) (.inl ⟨by rfl, ?hytq3⟩) ⟨(F.out _ Bd).1, (F.out _ Bd).2, fun _ => trivial⟩ ?_
    case hytq3 =>
      intro w' hSw
      try dsimp only at hSw
      go_simp
      all_goals with_reducible rfl
    try simp only [Act.put, List.setIfInBounds_toArray, List.set_cons_zero, List.set_cons_succ]
    refine wpAnyB_take (i := 3) (oi := _) (v := ?vvtq4) (fun w' => w'.cell? ⟨g, 0, none⟩ = some (.int .i64 p) ∧ w'.cell? ⟨g, 7, none⟩ = some (.slice XA z.xs.length xc)) rfl (by kernel_rfl) (by kernel_rfl) (by kernel_rfl) (by kernel_rfl) (by rfl) (fun _ h => ⟨h.1, h.2.1⟩) (.inl fun _ h => ⟨h.1, h.2.1⟩) (fun _ _ _ h => h) (.inl ⟨by rfl, ?hytq4⟩) ⟨(F.out _ Bd).1, (F.out _ Bd).2, fun _ => trivial⟩ ?_
    case hytq4 =>
      intro w' hSw
      try dsimp only at hSw
      go_simp
      all_goals with_reducible rfl
    try simp only [Act.put, List.setIfInBounds_toArray, List.set_cons_zero, List.set_cons_succ]
    refine wpAnyB_take (i := 4) (oi := _) (v := ?vvtq5) (fun w' => w'.cell? ⟨g, 0, none⟩ = some (.int .i64 p) ∧ w'.cell? ⟨g, 7, none⟩ = some (.slice XA z.xs.length xc)) rfl (by kernel_rfl) (by kernel_rfl) (by kernel_rfl) (by kernel_rfl) (by rfl) (fun _ h => ⟨h.1, h.2.1⟩) (.inl fun _ h => ⟨h.1, h.2.1⟩) (fun _ _ _ h => h) (.inl ⟨by rfl, ?hytq5⟩) ⟨(F.out _ Bd).1, (F.out _ Bd).2, fun _ => trivial⟩ ?_
    case hytq5 =>
      intro w' hSw
      try dsimp only at hSw
      go_simp
      all_goals with_reducible rfl
    try simp only [Act.put, List.setIfInBounds_toArray, List.set_cons_zero, List.set_cons_succ]
    refine wpAnyB_take (i := 5) (oi := _) (v := ?vvtq6) (fun w' => w'.cell? ⟨g, 0, none⟩ = some (.int .i64 p) ∧ w'.cell? ⟨g, 7, none⟩ = some (.slice XA z.xs.length xc)) rfl (by kernel_rfl) (by kernel_rfl) (by kernel_rfl) (by kernel_rfl) (by rfl) (fun _ h => ⟨h.1, h.2.1⟩) (.inl fun _ h => ⟨h.1, h.2.1⟩) (fun _ _ _ h => h) (.inl ⟨by rfl, ?hytq6⟩) ⟨(F.out _ Bd).1, (F.out _ Bd).2, fun _ => trivial⟩ ?_
    case hytq6 =>
      intro w' hSw
      try dsimp only at hSw
      go_simp
      all_goals with_reducible rfl
    try simp only [Act.put, List.setIfInBounds_toArray, List.set_cons_zero, List.set_cons_succ]
    refine wpAnyB_take (i := 6) (oi := _) (v := ?vvtq7) (fun w' => w'.cell? ⟨g, 0, none⟩ = some (.int .i64 p) ∧ w'.cell? ⟨g, 7, none⟩ = some (.slice XA z.xs.length xc)) rfl (by kernel_rfl) (by kernel_rfl) (by kernel_rfl) (by kernel_rfl) (by rfl) (fun _ h => ⟨h.1, h.2.1⟩) (.inl fun _ h => ⟨h.1, h.2.1⟩) (fun _ _ _ h => h) (.inl ⟨by rfl, ?hytq7⟩) ⟨(F.out _ Bd).1, (F.out _ Bd).2, fun _ => trivial⟩ ?_
    case hytq7 =>
      intro w' hSw
      try dsimp only at hSw
      go_simp
      all_goals with_reducible rfl
    try simp only [Act.put, List.setIfInBounds_toArray, List.set_cons_zero, List.set_cons_succ]
    refine wpAnyB_take (i := 7) (oi := _) (v := ?vvtq8) (fun w' => w'.cell? ⟨g, 0, none⟩ = some (.int .i64 p) ∧ w'.cell? ⟨g, 7, none⟩ = some (.slice XA z.xs.length xc)) rfl (by kernel_rfl) (by kernel_rfl) (by kernel_rfl) (by kernel_rfl) (by rfl) (fun _ h => ⟨h.1, h.2.1⟩) (.inl fun _ h => ⟨h.1, h.2.1⟩) (fun _ _ _ h => h) (.inl ⟨by rfl, ?hytq8⟩) ⟨(F.out _ Bd).1, (F.out _ Bd).2, fun _ => trivial⟩ ?_
    case hytq8 =>
      intro w' hSw
      try dsimp only at hSw
      go_simp
      all_goals with_reducible rfl
    try simp only [Act.put, List.setIfInBounds_toArray, List.set_cons_zero, List.set_cons_succ]
    refine wpAnyB_take (i := 8) (oi := _) (v := ?vvtq9) (fun w' => w'.cell? ⟨g, 0, none⟩ = some (.int .i64 p) ∧ w'.cell? ⟨g, 7, none⟩ = some (.slice XA z.xs.length xc)) rfl (by kernel_rfl) (by kernel_rfl) (by kernel_rfl) (by kernel_rfl) (by rfl) (fun _ h => ⟨h.1, h.2.1⟩) (.inl fun _ h => ⟨h.1, h.2.1⟩) (fun _ _ _ h => h) (.inl ⟨by rfl, ?hytq9⟩) ⟨(F.out _ Bd).1, (F.out _ Bd).2, fun _ => trivial⟩ ?_
    case hytq9 =>
      intro w' hSw
      try dsimp only at hSw
      go_simp
      all_goals with_reducible rfl
    try simp only [Act.put, List.setIfInBounds_toArray, List.set_cons_zero, List.set_cons_succ]
    refine wpAnyB_two (i := 9) (j := 11) false rfl rfl (by kernel_rfl) (by kernel_rfl) (by kernel_rfl) ?_ ?_
    · intro KK hKK
      go_simp
      go_at_call 39
      refine (CC.out _ (BA.out.trans (Bd.mono (Nat.le_succ _)))).mono ?_
      rintro e Wq13 ⟨A2, n2, c2, rfl, r2, l2, hb5⟩
      obtain rfl : z.xs.length = n2 := l2
      have Bq10 := Bd.trans (hb5.mono zd)
      have zq11 := Nat.le_trans zd hb5.size
      have oq14 := own_mono r2 zd
      refine hKK.out _ _ ⟨(F.out _ Bq10).1, (F.out _ Bq10).2, fun _ => trivial⟩ ?_
      clear hKK KK
      try simp only [Act.put, List.setIfInBounds_toArray, List.set_cons_zero, List.set_cons_succ]
      refine wpAnyB_take (i := 10) (oi := _) (v := ?vvtq25) (fun w' => w'.cell? ⟨g, 0, none⟩ = some (.int .i64 p) ∧ w'.cell? ⟨g, 7, none⟩ = some (.slice XA z.xs.length xc)) rfl (by kernel_rfl) (by kernel_rfl) (by kernel_rfl) (by kernel_rfl) (by rfl) (fun _ h => ⟨h.1, h.2.1⟩) (.inl fun _ h => ⟨h.1, h.2.1⟩) (fun _ _ _ h => h) (.inl ⟨by rfl, ?hytq25⟩) ⟨(F.out _ Bq10).1, (F.out _ Bq10).2, fun _ => trivial⟩ ?_
      case hytq25 =>
        intro w' hSw
        try dsimp only at hSw
        go_simp
        all_goals with_reducible rfl
      try simp only [Act.put, List.setIfInBounds_toArray, List.set_cons_zero, List.set_cons_succ]
      refine wpAnyB_one (i := 11) false rfl (by kernel_rfl) (by kernel_rfl) ?_
      intro KK hKK
      go_simp
      have Bq26 := Bq10.alloc zq11 (.cells #[.int .i64 0, .slice none 0 0, .slice none 0 0] 43)
      have zq27 : W.heap.size + 1 ≤ (Wq13.alloc (.cells #[.int .i64 0, .slice none 0 0, .slice none 0 0] 43)).heap.size := by simp; omega
      have Kq28 : Has (Wq13.alloc (.cells #[.int .i64 0, .slice none 0 0, .slice none 0 0] 43)) Wq13.heap.size 43 [.int .i64 0, .slice none 0 0, .slice none 0 0] := Has.new rfl
      have oq30 := own_below oq14 ((Below.refl Wq13.heap.size Wq13).alloc (Nat.le_refl _) (.cells #[.int .i64 0, .slice none 0 0, .slice none 0 0] 43))
      generalize (Wq13.alloc (.cells #[.int .i64 0, .slice none 0 0, .slice none 0 0] 43)) = Wq29 at *
      refine hKK.out _ _ ⟨(F.out _ Bq26).1, (F.out _ Bq26).2, fun _ => trivial⟩ ?_
      clear hKK KK
      try simp only [Act.put, List.setIfInBounds_toArray, List.set_cons_zero, List.set_cons_succ]
      refine wpAnyB_one (i := 12) true rfl (by kernel_rfl) (by kernel_rfl) ?_
      intro KK hKK
      have k0 := Kq28.cell 0
      have k1 := Kq28.cell 1
      have k2 := Kq28.cell 2
      have f0 := Kq28.free 0
      have f1 := Kq28.free 1
      have f2 := Kq28.free 2
      have q8 := Kq28.lt
      go_simp
      have B9 := ((Bq26.setCell (p := ⟨Wq13.heap.size, 0, none⟩) zq11 (.int .i64 (2 * p))).setCell (p := ⟨Wq13.heap.size, 1, none⟩) zq11 (.slice A2 z.xs.length c2)).setCell (p := ⟨Wq13.heap.size, 2, none⟩) zq11 (.slice none 0 0)
      have K9 := ((Kq28.set 0 (.int .i64 (2 * p))).set 1 (.slice A2 z.xs.length c2)).set 2 (.slice none 0 0)
      have nbo : (Value.slice A2 z.xs.length c2).ownBlock ≠ some Wq13.heap.size := Kq28.ne_own oq30 (show 43 ≠ 47 by decide)
      have o9 := ownsRow_setCell_other (ownsRow_setCell_other (ownsRow_setCell_other oq30 (a := ⟨Wq13.heap.size, 0, none⟩) nbo (.int .i64 (2 * p))) (a := ⟨Wq13.heap.size, 1, none⟩) nbo (.slice A2 z.xs.length c2)) (a := ⟨Wq13.heap.size, 2, none⟩) nbo (.slice none 0 0)
      refine hKK.out _ _ ⟨(F.out _ B9).1, (F.out _ B9).2, fun hh => by cases hh⟩ ?_
      clear hKK KK
      try simp only [Act.put, List.setIfInBounds_toArray, List.set_cons_zero, List.set_cons_succ]
      refine wpAnyB_done (by kernel_rfl) (NoPanic.normal ?_) _
      exact ⟨rfl, Wq13.heap.size, A2, c2, rfl, K9, o9, zq11, B9⟩
    · intro KK hKK
      go_simp
      have Bq15 := Bd.alloc zd (.cells #[.int .i64 0, .slice none 0 0, .slice none 0 0] 43)
      have zq16 : W.heap.size + 1 ≤ (Wd.alloc (.cells #[.int .i64 0, .slice none 0 0, .slice none 0 0] 43)).heap.size := by simp; omega
      have Kq17 : Has (Wd.alloc (.cells #[.int .i64 0, .slice none 0 0, .slice none 0 0] 43)) Wd.heap.size 43 [.int .i64 0, .slice none 0 0, .slice none 0 0] := Has.new rfl
      generalize (Wd.alloc (.cells #[.int .i64 0, .slice none 0 0, .slice none 0 0] 43)) = Wq18 at *
      refine hKK.out _ _ ⟨(F.out _ Bq15).1, (F.out _ Bq15).2, fun _ => trivial⟩ ?_
      clear hKK KK
      try simp only [Act.put, List.setIfInBounds_toArray, List.set_cons_zero, List.set_cons_succ]
      refine wpAnyB_one (i := 9) false rfl (by kernel_rfl) (by kernel_rfl) ?_
      intro KK hKK
      go_simp
      go_at_call 39
      refine (CC.out _ (BA.out.trans (Bq15.mono (Nat.le_succ _)))).mono ?_
      rintro e Wq23 ⟨A2, n2, c2, rfl, r2, l2, hb5⟩
      obtain rfl : z.xs.length = n2 := l2
      have Bq20 := Bq15.trans (hb5.mono zq16)
      have zq21 := Nat.le_trans zq16 hb5.size
      have oq24 := own_mono r2 zq16
      have Kq22 := Kq17.below hb5 Kq17.lt
      refine hKK.out _ _ ⟨(F.out _ Bq20).1, (F.out _ Bq20).2, fun _ => trivial⟩ ?_
      clear hKK KK
      try simp only [Act.put, List.setIfInBounds_toArray, List.set_cons_zero, List.set_cons_succ]
      refine wpAnyB_take (i := 10) (oi := _) (v := ?vvtq31) (fun w' => w'.cell? ⟨g, 0, none⟩ = some (.int .i64 p) ∧ w'.cell? ⟨g, 7, none⟩ = some (.slice XA z.xs.length xc)) rfl (by kernel_rfl) (by kernel_rfl) (by kernel_rfl) (by kernel_rfl) (by rfl) (fun _ h => ⟨h.1, h.2.1⟩) (.inl fun _ h => ⟨h.1, h.2.1⟩) (fun _ _ _ h => h) (.inl ⟨by rfl, ?hytq31⟩) ⟨(F.out _ Bq20).1, (F.out _ Bq20).2, fun _ => trivial⟩ ?_
      case hytq31 =>
        intro w' hSw
        try dsimp only at hSw
        go_simp
        all_goals with_reducible rfl
      try simp only [Act.put, List.setIfInBounds_toArray, List.set_cons_zero, List.set_cons_succ]
      refine wpAnyB_one (i := 12) true rfl (by kernel_rfl) (by kernel_rfl) ?_
      intro KK hKK
      have k0 := Kq22.cell 0
      have k1 := Kq22.cell 1
      have k2 := Kq22.cell 2
      have f0 := Kq22.free 0
      have f1 := Kq22.free 1
      have f2 := Kq22.free 2
      have q8 := Kq22.lt
      go_simp
      have B9 := ((Bq20.setCell (p := ⟨Wd.heap.size, 0, none⟩) zd (.int .i64 (2 * p))).setCell (p := ⟨Wd.heap.size, 1, none⟩) zd (.slice A2 z.xs.length c2)).setCell (p := ⟨Wd.heap.size, 2, none⟩) zd (.slice none 0 0)
      have K9 := ((Kq22.set 0 (.int .i64 (2 * p))).set 1 (.slice A2 z.xs.length c2)).set 2 (.slice none 0 0)
      have nbo : (Value.slice A2 z.xs.length c2).ownBlock ≠ some Wd.heap.size := Kq22.ne_own oq24 (show 43 ≠ 47 by decide)
      have o9 := ownsRow_setCell_other (ownsRow_setCell_other (ownsRow_setCell_other oq24 (a := ⟨Wd.heap.size, 0, none⟩) nbo (.int .i64 (2 * p))) (a := ⟨Wd.heap.size, 1, none⟩) nbo (.slice A2 z.xs.length c2)) (a := ⟨Wd.heap.size, 2, none⟩) nbo (.slice none 0 0)
      refine hKK.out _ _ ⟨(F.out _ B9).1, (F.out _ B9).2, fun hh => by cases hh⟩ ?_
      clear hKK KK
      try simp only [Act.put, List.setIfInBounds_toArray, List.set_cons_zero, List.set_cons_succ]
      refine wpAnyB_done (by kernel_rfl) (NoPanic.normal ?_) _
      exact ⟨rfl, Wd.heap.size, A2, c2, rfl, K9, o9, zd, B9⟩
  · rintro a' W3 ⟨g3, A2, c2, rfl, hG, hO, hg3, hB⟩
    go_simp
    have HR3 := Lib.hid (clRows_new hg3 hG hO)
    have HB3 := Lib.hid hB
    have a8 : W3.cell? ⟨g, 8, none⟩ = some (.slice PA z.ps.length pc) := (hB.cell (p := ⟨g, 8, none⟩) (Nat.lt_succ_of_lt hg)).trans (RowsH.cell H1.out 8)
    have hgW3 : g < W3.heap.size := Nat.lt_of_lt_of_le (Nat.lt_of_lt_of_le hg hz1) hB.size
    clear hG hO hB a0 a7 HA0 HA7 CC HW0 HW7
    go_wp2
    go_loopw [26] (fun iv wr => ∃ (k : Nat) (D : Value), k ≤ z.ps.length ∧ iv = .int .i64 (k : Int) ∧ Hid (RowsH wr (W.heap.size + 1) g3 43 [.int .i64 (2 * p)] (clRows (.slice A2 z.xs.length c2) D z.xs ((z.ps.map Pn.q).take k))) ∧ Hid (Below (W.heap.size + 1) W1 wr)) (fun iv _ => z.ps.length - (intOf iv).toNat)
    case atStart => exact ⟨0, _, Nat.zero_le _, rfl, HR3, HB3⟩
    case round =>
      clear HR3 HB3 a8 hgW3
      obtain ⟨k, D, hk, rfl, HR, HB⟩ := hrel
      obtain ⟨wo, rfl⟩ : ∃ wo : World, wo = wr := ⟨_, rfl⟩
      have BW : Below W.heap.size W wo := BA.out.trans (HB.out.mono (Nat.le_succ _))
      have hlk : ((z.ps.map Pn.q).take k).length = k := by rw [List.length_take, List.length_map]; omega
      have o1 : wo.ownsRow (W.heap.size + 1) 56 4 D k (qsC ((z.ps.map Pn.q).take k)) := by
        have o1 : wo.ownsRow (W.heap.size + 1) 56 4 D ((z.ps.map Pn.q).take k).length (qsC ((z.ps.map Pn.q).take k)) := HR.out.o 1 _ rfl
        rw [hlk] at o1; exact o1
      obtain ⟨DA, dc, rfl⟩ := own_form o1
      have HLK := Lib.hid hlk
      by_cases hlt : k < z.ps.length
      · have jk : (k : Int) < (z.ps.length : Int) := by omega
        obtain ⟨x, hx⟩ := get_of_lt hlt
        have HTK : Hid ((z.ps.map Pn.q).take (k + 1) = (z.ps.map Pn.q).take k ++ [x.q]) := by
          show _ = _
          rw [List.take_add_one, List.getElem?_map, hx]; rfl
        have C := fun i hi => pnsC_at hx i hi
        obtain ⟨bp, rfl, hbp, hbp2, c0'⟩ := own_at O5.out (j := k * 6 + 0) (u := .int .i64 x.q.a) (C 0 (by decide))
        have CC : Hid (∀ i u, i < 6 → (pnC x)[i]? = some u → wo.cell? ⟨bp, k * 6 + i, none⟩ = some u) := fun i u hi hu => by
          obtain ⟨bp', e', _, _, c'⟩ := own_at O5.out (j := k * 6 + i) (u := u) ((C i hi).trans hu)
          injection e' with e'
          injection e' with e'
          subst e'
          exact (BW.cell (p := ⟨bp, k * 6 + i, none⟩) hbp2).trans c'
        have c0 : wo.cell? ⟨bp, k * 6, none⟩ = some (.int .i64 x.q.a) := CC.out 0 _ (by decide) rfl
        have c1 : wo.cell? ⟨bp, k * 6 + 1, none⟩ = some (.int .i64 x.q.b) := CC.out 1 _ (by decide) rfl
        have c2' : wo.cell? ⟨bp, k * 6 + 2, none⟩ = some (.int .i64 x.q.c) := CC.out 2 _ (by decide) rfl
        have c3 : wo.cell? ⟨bp, k * 6 + 3, none⟩ = some (.int .i64 x.q.d) := CC.out 3 _ (by decide) rfl
        have c4 : wo.cell? ⟨bp, k * 6 + 4, none⟩ = some (.bool x.sew) := CC.out 4 _ (by decide) rfl
        have c5 : wo.cell? ⟨bp, k * 6 + 5, none⟩ = some (.bool x.out) := CC.out 5 _ (by decide) rfl
        clear c0' C hx CC
        obtain ⟨q, sw, ot⟩ := x
        obtain ⟨xa, xb, xc', xd⟩ := q
        simp only [] at c0 c1 c2' c3 c4 c5
        have a2 : wo.cell? ⟨g3, 2, none⟩ = some (.slice DA k dc) := RowsH.cell HR.out 2
        have qg3 := HR.out.c.lt
        have zz := HR.out.z
        have hKK := Lib.hid (fun (W' : World) (A4 : Option Addr) (c4 : Nat) (h1 : ((wo.alloc (.cells #[.int .i64 xa, .int .i64 xb, .int .i64 xc', .int .i64 xd, .bool sw, .bool ot] 91)).alloc (.cells #[.int .i64 xa, .int .i64 xb, .int .i64 xc', .int .i64 xd] 56)).grownBy W' (Value.slice DA k dc).ownBlock) (h2 : W'.ownsRow (W.heap.size + 1) 56 4 (.slice A4 (k + 1) c4) (k + 1) (qsC ((z.ps.map Pn.q).take k) ++ q4C ⟨xa, xb, xc', xd⟩)) => RowsH.grow (RowsH.below (RowsH.below HR.out ((Below.refl _ wo).alloc (Nat.le_refl _) (.cells #[.int .i64 xa, .int .i64 xb, .int .i64 xc', .int .i64 xd, .bool sw, .bool ot] 91))) ((Below.refl _ (wo.alloc (.cells #[.int .i64 xa, .int .i64 xb, .int .i64 xc', .int .i64 xd, .bool sw, .bool ot] 91))).alloc (Nat.le_refl _) (.cells #[.int .i64 xa, .int .i64 xb, .int .i64 xc', .int .i64 xd] 56))) (i := 1) rfl h1 h2 2 rfl)
        have C4 := Lib.hid (fun (W' : World) (h1 : ((wo.alloc (.cells #[.int .i64 xa, .int .i64 xb, .int .i64 xc', .int .i64 xd, .bool sw, .bool ot] 91)).alloc (.cells #[.int .i64 xa, .int .i64 xb, .int .i64 xc', .int .i64 xd] 56)).grownBy W' (Value.slice DA k dc).ownBlock) => (RowsH.below (RowsH.below HR.out ((Below.refl _ wo).alloc (Nat.le_refl _) (.cells #[.int .i64 xa, .int .i64 xb, .int .i64 xc', .int .i64 xd, .bool sw, .bool ot] 91))) ((Below.refl _ (wo.alloc (.cells #[.int .i64 xa, .int .i64 xb, .int .i64 xc', .int .i64 xd, .bool sw, .bool ot] 91))).alloc (Nat.le_refl _) (.cells #[.int .i64 xa, .int .i64 xb, .int .i64 xc', .int .i64 xd] 56))).c.same (h1.block _ (RowsH.below (RowsH.below HR.out ((Below.refl _ wo).alloc (Nat.le_refl _) (.cells #[.int .i64 xa, .int .i64 xb, .int .i64 xc', .int .i64 xd, .bool sw, .bool ot] 91))) ((Below.refl _ (wo.alloc (.cells #[.int .i64 xa, .int .i64 xb, .int .i64 xc', .int .i64 xd, .bool sw, .bool ot] 91))).alloc (Nat.le_refl _) (.cells #[.int .i64 xa, .int .i64 xb, .int .i64 xc', .int .i64 xd] 56))).c.lt (fun e => (RowsH.below (RowsH.below HR.out ((Below.refl _ wo).alloc (Nat.le_refl _) (.cells #[.int .i64 xa, .int .i64 xb, .int .i64 xc', .int .i64 xd, .bool sw, .bool ot] 91))) ((Below.refl _ (wo.alloc (.cells #[.int .i64 xa, .int .i64 xb, .int .i64 xc', .int .i64 xd, .bool sw, .bool ot] 91))).alloc (Nat.le_refl _) (.cells #[.int .i64 xa, .int .i64 xb, .int .i64 xc', .int .i64 xd] 56))).ne (i := 1) rfl e.symm)))
        have O1 := Lib.hid ((o1.alloc (.cells #[.int .i64 xa, .int .i64 xb, .int .i64 xc', .int .i64 xd, .bool sw, .bool ot] 91)).alloc (.cells #[.int .i64 xa, .int .i64 xb, .int .i64 xc', .int .i64 xd] 56))
        clear o1
        clear hlk
        go_wp2_with (at_builtin; refine wpList_app rfl (.tmp 31) (.tmp 34) _ rfl (W.heap.size + 1) 56 (.agg #[.int .i64 0, .int .i64 0, .int .i64 0, .int .i64 0]) 4 32 Try.underlying41 infoPn16 rfl (by omega) (by omega) (.slice DA k dc) _ _ rfl O1.out (wo.heap.size + 1) (q4C ⟨xa, xb, xc', xd⟩) rfl rfl (fun j u hu => by have h9 := ((Has.new (w := wo.alloc (.cells #[.int .i64 xa, .int .i64 xb, .int .i64 xc', .int .i64 xd, .bool sw, .bool ot] 91)) (t := 56) (cs := [.int .i64 xa, .int .i64 xb, .int .i64 xc', .int .i64 xd]) rfl).cell j).trans hu; rw [World.size_alloc] at h9; exact h9) (one4 xa xb xc' xd) (by omega) (by simp; omega) ?_; intro g1 cap1 w3 hg1 hown1 hgrow1 hor1; have d4 := C4.out _ hgrow1; have d6 := d4.cell 2; have f6 := d4.free 2; have q4 := d4.lt)
        go_roundw
        case rel =>
          refine ⟨k + 1, .slice (some ⟨g1, 0, none⟩) (k + 1) cap1, by omega, by go_num, ?_, ?_⟩
          · have h6 := hKK.out w3 _ _ hgrow1 hown1
            show RowsH _ _ _ _ _ _
            rw [HTK.out, clRows_pin (.slice A2 z.xs.length c2) (.slice DA k dc), HLK.out]
            exact h6
          · show Below _ _ _
            exact (((HB.out.alloc zz (.cells #[.int .i64 xa, .int .i64 xb, .int .i64 xc', .int .i64 xd, .bool sw, .bool ot] 91)).alloc (by simp; omega) (.cells #[.int .i64 xa, .int .i64 xb, .int .i64 xc', .int .i64 xd] 56)).grown hgrow1 (by simp; omega) (fun k hk => (O1.out.lt k hk).1)).setCell (p := ⟨g3, 2, none⟩) hg3 _
        case measure => first | (simp [intOf]; done) | (simp [intOf]; omega)
      · obtain rfl : k = z.ps.length := by omega
        have jk : ¬ (z.ps.length : Int) < (z.ps.length : Int) := by omega
        have hall : (z.ps.map Pn.q).take z.ps.length = z.ps.map Pn.q := by rw [← List.length_map (f := Pn.q), List.take_length]
        rw [hall] at HR hlk o1
        clear HLK
        have o0 : wo.ownsRow (W.heap.size + 1) 47 4 (.slice A2 z.xs.length c2) z.xs.length (qsC z.xs) := HR.out.o 0 _ rfl
        have O0 := Lib.hid o0
        have O1 := Lib.hid o1
        have K := Lib.hid (K1'.out.below HB.out (Nat.lt_succ_self _))
        have k0 := K.out.cell 0
        have k1 := K.out.cell 1
        have k2 := K.out.cell 2
        have f0 := K.out.free 0
        have f1 := K.out.free 1
        have f2 := K.out.free 2
        have qk := K.out.lt
        have b0 : wo.cell? ⟨g3, 0, none⟩ = some (.int .i64 (2 * p)) := RowsH.cell HR.out 0
        have b1 : wo.cell? ⟨g3, 1, none⟩ = some (.slice A2 z.xs.length c2) := RowsH.cell HR.out 1
        have b2 : wo.cell? ⟨g3, 2, none⟩ = some (.slice DA z.ps.length dc) := RowsH.cell HR.out 2
        have qg3 := HR.out.c.lt
        clear o0 o1
        go_wp2
        refine post_cell (((K.out.set 0 _).set 1 _).set 2 _) rfl rfl rfl Try.underlying43 (by kernel_rfl) ?_
        refine ⟨A2, z.xs.length, c2, DA, z.ps.length, dc, rfl, ?_, ?_, rfl, List.length_map _, ?_⟩
        · exact (ownsRow_setCell_below (ownsRow_setCell_below (ownsRow_setCell_below O0.out (a := ⟨W.heap.size, 0, none⟩) (Nat.lt_succ_self _) _) (a := ⟨W.heap.size, 1, none⟩) (Nat.lt_succ_self _) _) (a := ⟨W.heap.size, 2, none⟩) (Nat.lt_succ_self _) _)
        · exact (ownsRow_setCell_below (ownsRow_setCell_below (ownsRow_setCell_below O1.out (a := ⟨W.heap.size, 0, none⟩) (Nat.lt_succ_self _) _) (a := ⟨W.heap.size, 1, none⟩) (Nat.lt_succ_self _) _) (a := ⟨W.heap.size, 2, none⟩) (Nat.lt_succ_self _) _)
        · exact ((BW.setCell (p := ⟨W.heap.size, 0, none⟩) (Nat.le_refl _) _).setCell (p := ⟨W.heap.size, 1, none⟩) (Nat.le_refl _) _).setCell (p := ⟨W.heap.size, 2, none⟩) (Nat.le_refl _) _
theorem clothC (B g : Nat) (p s : Int) (z : Pil) (S M V L X P : Value) (W : World) (h : PilH W B g p s z S M V L X P) (hp : 0 < p ∧ p ≤ 24) (hn : z.xs.length ≤ 1000000) (hn2 : z.ps.length ≤ 1000000) :
    Calls Try.prog 15 #[.pointer (some ⟨g, 0, none⟩)] W (RetCl (2 * p) z.xs (z.ps.map Pn.q) W) :=
  (clothCO B g p s z S M V L X P W h hp hn hn2).mono (by
    rintro e w' ⟨A, n, c, D, m, d, rfl, h1, h2, h3, h4, h5⟩
    exact ⟨A, n, c, D, m, d, rfl, own_rdQ h1, own_rdQ h2, h3, h4, h5⟩)
end Go.Proofs.Ytaenafcecfdffaa
/-
  Words for the walk of PillowThreads: the moments as rows of the call's own.
-/
namespace Go.Proofs.Ytaenafcecfdffaa
open Go.RowKit
theorem infoIm : (Try.prog.info? 39).map (fun i => (i.zero, i.size, i.bytes)) = some (some (.slice none 0 0), 1, 24) := by kernel_rfl
theorem own_low {w : World} {base base' : Nat} {e : TypeId} {size n : Nat} {v : Value} {xs : List Value} (h : w.ownsRow base e size v n xs) (hb : base' ≤ base) : w.ownsRow base' e size v n xs :=
  ⟨h.1, h.2.imp id (fun ⟨g, cap, cur, h1, h2, h3⟩ => ⟨g, cap, cur, h1, Nat.le_trans hb h2, h3⟩)⟩
set_option maxRecDepth 100000 in
set_option maxHeartbeats 4000000 in
/-- moments: clones of lines, in blocks that are neither lb nor the row wv's -/
structure Moms (W : World) (B lb : Nat) (wv : Value) (vs : List Value) (ms : List (List Int)) : Prop where
  len : vs.length = ms.length
  at_ : ∀ (q : Nat) (l : List Int), ms[q]? = some l → ∃ A c, vs[q]? = some (.slice A l.length c) ∧ W.ownsRow B 3 1 (.slice A l.length c) l.length (l.map vInt) ∧ ∀ r, (Value.slice A l.length c).ownBlock = some r → r ≠ lb ∧ wv.ownBlock ≠ some r
theorem Moms.keep {W W' : World} {B lb : Nat} {wv wv' : Value} {vs : List Value} {ms : List (List Int)} (h : Moms W B lb wv vs ms)
    (hk : ∀ (v : Value) (n : Nat) (xs : List Value), W.ownsRow B 3 1 v n xs → (∀ r, v.ownBlock = some r → r ≠ lb ∧ wv.ownBlock ≠ some r) → W'.ownsRow B 3 1 v n xs)
    (hw : ∀ r, r < W.heap.size → wv'.ownBlock = some r → wv.ownBlock = some r) : Moms W' B lb wv' vs ms := by
  refine ⟨h.len, fun q l hq => ?_⟩
  obtain ⟨A, c, h1, h2, h3⟩ := h.at_ q l hq
  exact ⟨A, c, h1, hk _ _ _ h2 h3, fun r hr => ⟨(h3 r hr).1, fun e => (h3 r hr).2 (hw r (h2.lt r hr).2 e)⟩⟩
theorem Moms.below {W W' : World} {B lb : Nat} {wv : Value} {vs : List Value} {ms : List (List Int)} (h : Moms W B lb wv vs ms) (hb : Below W.heap.size W W') : Moms W' B lb wv vs ms :=
  h.keep (fun _ _ _ o _ => own_below o hb) (fun _ _ e => e)
/-- the row wv grows -/
theorem Moms.word {W W' : World} {B lb : Nat} {wv wv' : Value} {vs : List Value} {ms : List (List Int)} (h : Moms W B lb wv vs ms) (k : W.grownBy W' wv.ownBlock) (hw : wv'.ownBlock = wv.ownBlock ∨ wv'.ownBlock = some W.heap.size) : Moms W' B lb wv' vs ms :=
  h.keep (fun v _ _ o hn => o.kept k (by
    cases hb : v.ownBlock with
    | none => exact .inl rfl
    | some b => exact .inr (fun e => (hn b hb).2 e.symm))) (fun r hr e => by
    rcases hw with e2 | e2
    · rw [← e2]; exact e
    · rw [e2] at e; injection e with e; omega)
theorem Moms.line {W : World} {B lb : Nat} {wv : Value} {vs : List Value} {ms : List (List Int)} (h : Moms W B lb wv vs ms) (j : Nat) (u : Value) : Moms (W.setCell ⟨lb, j, none⟩ u) B lb wv vs ms :=
  h.keep (fun _ _ _ o hn => ownsRow_setCell_other o (fun e => (hn lb e).1 rfl) u) (fun _ _ e => e)
/-- the row of moments grows -/
theorem Moms.mom {W W' : World} {B B' lb : Nat} {wv : Value} {vs : List Value} {ms : List (List Int)} (h : Moms W B lb wv vs ms) {size n : Nat} {mv : Value} {xs : List Value} (hm : W.ownsRow B' 39 size mv n xs) (k : W.grownBy W' mv.ownBlock) : Moms W' B lb wv vs ms :=
  h.keep (fun v _ _ o _ => o.kept k (by
    cases hb : v.ownBlock with
    | none => exact .inl rfl
    | some b => exact .inr (fun e => own_apart o hm (by decide) hb e.symm))) (fun _ _ e => e)
theorem Moms.push {W : World} {B lb : Nat} {wv : Value} {vs : List Value} {ms : List (List Int)} (h : Moms W B lb wv vs ms) {A : Option Addr} {n c : Nat} {l : List Int} (hl : l.length = n) (ho : W.ownsRow B 3 1 (.slice A n c) n (l.map vInt)) (hn : ∀ r, (Value.slice A n c).ownBlock = some r → r ≠ lb ∧ wv.ownBlock ≠ some r) :
    Moms W B lb wv (vs ++ [.slice A n c]) (ms ++ [l]) := by
  refine ⟨by rw [List.length_append, List.length_append, h.len]; rfl, fun q l' hq => ?_⟩
  by_cases hlt : q < ms.length
  · rw [List.getElem?_append_left hlt] at hq
    obtain ⟨A', c', h1, h2⟩ := h.at_ q l' hq
    exact ⟨A', c', by rw [List.getElem?_append_left (by rw [h.len]; exact hlt)]; exact h1, h2⟩
  · rw [List.getElem?_append_right (by omega)] at hq
    have hq0 : q - ms.length = 0 := by have := lt_of_get hq; simpa using this
    rw [hq0] at hq
    obtain rfl : l = l' := by simpa using hq
    refine ⟨A, c, ?_, ?_, ?_⟩
    · rw [List.getElem?_append_right (by rw [h.len]; omega), h.len, hq0, hl]; rfl
    · rw [hl]; exact ho
    · rw [hl]; exact hn
theorem Moms.nil (W : World) (B lb : Nat) (wv : Value) : Moms W B lb wv [] [] := ⟨rfl, fun q l h => by simp at h⟩
theorem Moms.rd {W : World} {B B' lb : Nat} {wv : Value} {vs : List Value} {ms : List (List Int)} (h : Moms W B lb wv vs ms) {A : Option Addr} {n c : Nat} (hm : W.ownsRow B' 39 1 (.slice A n c) n vs) : RdM W W.heap.size A ms := fun q l hq => by
  obtain ⟨A', c', h1, h2, _⟩ := h.at_ q l hq
  obtain ⟨g, rfl, _, h3, h4⟩ := own_at hm h1
  exact ⟨g, 0, A', c', rfl, h3, by rw [Nat.zero_add]; exact h4, own_rd1 h2⟩
theorem fold_bnd {n : Nat} : ∀ (r : List Q4) (l : List Int), crOk l r → (∀ x ∈ l, 0 ≤ x ∧ x < (n : Int)) → ∀ x ∈ r.foldl crLine l, 0 ≤ x ∧ x < (n : Int)
  | [], l, _, hl => hl
  | q :: r, l, hc, hl => by
    obtain ⟨t, la, lb, hb, ht, _⟩ := hc.1
    refine fold_bnd r (crLine l q) hc.2 (fun x hx => hl x ?_)
    unfold crLine at hx
    rw [hb] at hx
    exact exch_mem ht x hx
theorem lineN_bnd (n : Nat) : ∀ x ∈ lineN n, 0 ≤ x ∧ x < (n : Int) := fun x hx => by
  simp [lineN] at hx; obtain ⟨a, ha, rfl⟩ := hx; omega
theorem crOk_take {l : List Int} {r : List Q4} (h : crOk l r) (j : Nat) : crOk l (r.take j) := by
  have h2 : crOk l (r.take j ++ r.drop j) := by rw [List.take_append_drop]; exact h
  exact ((crOk_join _ _ _).1 h2).1
theorem crLine_at {l : List Int} {q : Q4} {t : Nat} {la lb : Int} (hqb : q.b = (t : Int)) (ha : l[t]? = some la) (hb : l[t + 1]? = some lb) : crLine l q = (l.set t lb).set (t + 1) la := by
  unfold crLine exch
  rw [hqb, Int.toNat_natCast, List.getD_eq_getElem?_getD, List.getD_eq_getElem?_getD, ha, hb]; rfl
/-- where the round of loop 3 stands: the line in block lb, the word wv, the moments mv; all else is as in W5 -/
structure St3 (W5 W : World) (B k lb c : Nat) (wv0 wv mv : Value) (ln wd : List Int) (vs : List Value) (ms : List (List Int)) : Prop where
  line : W.ownsRow B 3 1 (.slice (some ⟨lb, 0, none⟩) k c) k (ln.map vInt)
  word : W.ownsRow B 3 1 wv wd.length (wd.map vInt)
  wne : ∀ r, wv.ownBlock = some r → r ≠ lb ∧ (wv0.ownBlock = some r ∨ W5.heap.size ≤ r)
  mom : W.ownsRow W5.heap.size 39 1 mv ms.length vs
  moms : Moms W W5.heap.size lb wv vs ms
  keep : KeepB (fun r => r = lb ∨ wv0.ownBlock = some r) W5 W
  old : lb < W5.heap.size
theorem St3.below {W5 W W' : World} {B k lb c : Nat} {wv0 wv mv : Value} {ln wd : List Int} {vs : List Value} {ms : List (List Int)} (h : St3 W5 W B k lb c wv0 wv mv ln wd vs ms) (hb : Below W.heap.size W W') : St3 W5 W' B k lb c wv0 wv mv ln wd vs ms :=
  ⟨own_below h.line hb, own_below h.word hb, h.wne, own_below h.mom hb, h.moms.below hb, h.keep.trans (KeepB.of_below hb), h.old⟩
theorem St3.drew {W5 W : World} {B k lb c : Nat} {wv0 wv mv : Value} {ln wd : List Int} {vs : List Value} {ms : List (List Int)} (h : St3 W5 W B k lb c wv0 wv mv ln wd vs ms) : St3 W5 W.drew B k lb c wv0 wv mv ln wd vs ms :=
  h.below ⟨rfl, rfl, rfl, Nat.le_refl _, fun _ _ => rfl⟩
theorem St3.grown {W5 W W' : World} {B k lb c : Nat} {wv0 wv wv' mv : Value} {ln wd wd' : List Int} {vs : List Value} {ms : List (List Int)} (h : St3 W5 W B k lb c wv0 wv mv ln wd vs ms) (g : W.grownBy W' wv.ownBlock) (ho : W'.ownsRow B 3 1 wv' wd'.length (wd'.map vInt)) (hw : wv'.ownBlock = wv.ownBlock ∨ wv'.ownBlock = some W.heap.size) : St3 W5 W' B k lb c wv0 wv' mv ln wd' vs ms := by
  have hz := h.keep.size
  refine ⟨h.line.kept g (.inr (fun e => (h.wne lb e.symm).1 rfl)), ho, fun r hr => ?_, h.mom.kept g ?_, h.moms.word g hw, ?_, h.old⟩
  · rcases hw with e | e
    · exact h.wne r (e ▸ hr)
    · rw [e] at hr
      injection hr with hr
      have := h.old
      exact ⟨by omega, .inr (by omega)⟩
  · cases hb : wv.ownBlock with
    | none => cases hm : mv.ownBlock <;> simp
    | some b => exact .inr (own_apart h.word h.mom (by decide) hb)
  · refine ⟨g.os.trans h.keep.os, g.tape.trans h.keep.tape, g.output.trans h.keep.output, Nat.le_trans hz g.size, fun r hr hn => ?_⟩
    refine (g.block r (by omega) (fun e => ?_)).trans (h.keep.block r hr hn)
    rcases (h.wne r e.symm).2 with e2 | e2
    · exact hn (.inr e2)
    · omega
theorem St3.store {W5 W : World} {B k lb c : Nat} {wv0 wv mv : Value} {ln wd : List Int} {vs : List Value} {ms : List (List Int)} (h : St3 W5 W B k lb c wv0 wv mv ln wd vs ms) (j : Nat) (u : Int) : St3 W5 (W.setCell ⟨lb, j, none⟩ (vInt u)) B k lb c wv0 wv mv (ln.set j u) wd vs ms := by
  refine ⟨?_, ownsRow_setCell_other h.word (fun e => (h.wne lb e).1 rfl) _, h.wne, ownsRow_setCell_other h.mom (fun e => ?_) _, h.moms.line j _, h.keep.trans (KeepB.set W (.inl rfl) j _), h.old⟩
  · rw [List.map_set]; exact (h.line.stored j (vInt u)).1
  · exact own_apart h.line h.mom (by decide) rfl e
theorem St3.push {W5 W W' : World} {B k lb c : Nat} {wv0 wv mv mv' : Value} {ln wd : List Int} {vs : List Value} {ms : List (List Int)} (h : St3 W5 W B k lb c wv0 wv mv ln wd vs ms) (g : W.grownBy W' mv.ownBlock) {A : Option Addr} {n d : Nat} {l : List Int} (hl : l.length = n)
    (hc : W.ownsRow W5.heap.size 3 1 (.slice A n d) n (l.map vInt)) (hn : ∀ r, (Value.slice A n d).ownBlock = some r → r ≠ lb ∧ wv.ownBlock ≠ some r) (ho : W'.ownsRow W5.heap.size 39 1 mv' (ms.length + 1) (vs ++ [.slice A n d])) :
    St3 W5 W' B k lb c wv0 wv mv' ln wd (vs ++ [.slice A n d]) (ms ++ [l]) := by
  refine ⟨h.line.kept g ?_, h.word.kept g ?_, h.wne, ?_, ?_, ?_, h.old⟩
  · exact .inr (fun e => own_apart h.line h.mom (by decide) rfl e.symm)
  · cases hb : wv.ownBlock with
    | none => exact .inl rfl
    | some b => exact .inr (fun e => own_apart h.word h.mom (by decide) hb e.symm)
  · rw [List.length_append]; exact ho
  · refine (h.moms.mom h.mom g).push hl (hc.kept g ?_) hn
    cases hb : (Value.slice A n d).ownBlock with
    | none => exact .inl rfl
    | some b => exact .inr (fun e => own_apart hc h.mom (by decide) hb e.symm)
  · refine ⟨g.os.trans h.keep.os, g.tape.trans h.keep.tape, g.output.trans h.keep.output, Nat.le_trans h.keep.size g.size, fun r hr hn => ?_⟩
    refine (g.block r (by have := h.keep.size; omega) (fun e => ?_)).trans (h.keep.block r hr hn)
    have := (h.mom.lt r e.symm).1
    omega
/-- a slice of a row of four ints, from a place on -/
theorem rdQ_drop {w : World} {B : Nat} {A : Option Addr} {a c : List Q4} (h : RdQ w B A (a ++ c)) {q0 : Nat} (hq : a.length = q0) : RdQ w B (Option.map (fun x => x.add (q0 * 4)) A) c := fun k x hx => by
  subst hq
  obtain ⟨b, o, rfl, h1, h2, h3, h4, h5⟩ := h (a.length + k) x (by rw [List.getElem?_append_right (by omega), Nat.add_sub_cancel_left]; exact hx)
  refine ⟨b, o + a.length * 4, by rw [Option.map_some, Addr.add_lit], h1, ?_, ?_, ?_, ?_⟩
  · rw [show o + a.length * 4 + k * 4 = o + (a.length + k) * 4 by omega]; exact h2
  · rw [show o + a.length * 4 + k * 4 + 1 = o + (a.length + k) * 4 + 1 by omega]; exact h3
  · rw [show o + a.length * 4 + k * 4 + 2 = o + (a.length + k) * 4 + 2 by omega]; exact h4
  · rw [show o + a.length * 4 + k * 4 + 3 = o + (a.length + k) * 4 + 3 by omega]; exact h5
end Go.Proofs.Ytaenafcecfdffaa
