/-
  Contract of chapter 16: the pillow's method Cloth.
-/
import Derived.Test.YtaenafcecfdffaaVB2
import Derived.Test.YtaenafcecfdffaaVB9
import Derived.Test.YtaenafcecfdffaaVB10
import Derived.Test.YtaenafcecfdffaaVB12
import Derived.Test.YtaenafcecfdffaaVB15
namespace Go.Proofs.Ytaenafcecfdffaa
open Go.RowKit
theorem wp_region_join {P : Program} {id : Nat} {ops : Array Oper} {b : Bool} {Q : Exit → Act → World → Prop} {a : Act} {w : World} (R : Act → Act → World → Prop)
    (h1 : (Code.region id ops b).wp P (fun e a' w' => e = .normal ∧ R a a' w') a w) (h2 : ∀ a' w', R a a' w' → Q .normal a' w') : (Code.region id ops b).wp P Q a w :=
  Code.wp_mono (fun e a' w' ⟨he, hr⟩ => by rw [he]; exact h2 a' w' hr) h1
theorem rdQ_from {w : World} {B : Nat} {A : Option Addr} {ws : List Q4} (h : RdQ w B A ws) (hn : 0 < ws.length) : ∃ b o, A = some ⟨b, o, none⟩ ∧ b < B ∧ ∀ j v, (qsC ws)[j]? = some v → w.cell? ((⟨b, o, none⟩ : Addr).add j) = some v := by
  obtain ⟨x0, hx0⟩ := get_of_lt hn
  obtain ⟨b, o, rfl, hb, _⟩ := h 0 x0 hx0
  refine ⟨b, o, rfl, hb, fun j v hv => ?_⟩
  have hj := lt_of_get hv
  rw [qsC_len] at hj
  obtain ⟨x, hx⟩ := get_of_lt (l := ws) (k := j / 4) (by omega)
  obtain ⟨e1, e2, e3, e4⟩ := qsC_get hx
  obtain ⟨b2, o2, hA, _, c0, c1, c2, c3⟩ := h _ x hx
  injection hA with hA
  injection hA with h1 h2
  subst h1; subst h2
  rw [Addr.add_lit]
  have hm : j % 4 = 0 ∨ j % 4 = 1 ∨ j % 4 = 2 ∨ j % 4 = 3 := by omega
  rcases hm with hm | hm | hm | hm
  · have : j = j / 4 * 4 := by omega
    rw [this] at hv ⊢
    rw [e1] at hv; rw [← hv]; exact c0
  · have : j = j / 4 * 4 + 1 := by omega
    rw [this] at hv ⊢
    rw [e2] at hv; rw [← hv]; exact c1
  · have : j = j / 4 * 4 + 2 := by omega
    rw [this] at hv ⊢
    rw [e3] at hv; rw [← hv]; exact c2
  · have : j = j / 4 * 4 + 3 := by omega
    rw [this] at hv ⊢
    rw [e4] at hv; rw [← hv]; exact c3
theorem one_qs (ws : List Q4) : ∀ u ∈ qsC ws, u.oneCell' = true := fun u hu => by
  unfold qsC at hu
  obtain ⟨x, _, hx⟩ := List.mem_flatMap.1 hu
  simp only [q4C, List.mem_cons, List.not_mem_nil, or_false] at hx
  rcases hx with rfl | rfl | rfl | rfl <;> rfl
theorem wpList_appQ {w : World} {ops : Array Oper} {rest : List Oper} {o : Oper} {a : Act} {Q : Exit → Act → World → Prop} (hgd : o.guard = none) (s x : Operand)
    (ho : o.op = .call { callee := .builtin .append, args := #[s, x], argTypes := #[40, 40] })
    (base : Nat) (v : Value) (n : Nat) (xs : List Q4) (hs : a.eval s = v) (hown : w.ownsRow base 47 4 v n (qsC xs))
    (A : Option Addr) (m c : Nat) (ws : List Q4) (hx : a.eval x = .slice A m c) (hr : RdQ w w.heap.size A ws) (hl : ws.length = m)
    (hn : n + m ≤ 1000000000) (hbase : base ≤ w.heap.size)
    (h : ∀ A' c' w', w'.ownsRow base 47 4 (.slice A' (n + m) c') (n + m) (qsC (xs ++ ws)) → w.grownBy w' v.ownBlock → wpList Try.prog ops Q rest (a.put o.dst (.slice A' (n + m) c')) w') :
    wpList Try.prog ops Q (o :: rest) a w := by
  have happ : qsC xs ++ qsC ws = qsC (xs ++ ws) := by simp [qsC]
  refine wpList_plain hgd fun K hK => ?_
  cases A with
  | none =>
    have hw0 : ws = [] := by
      cases ws with
      | nil => rfl
      | cons y ws => obtain ⟨b, o', e, _⟩ := hr 0 y rfl; cases e
    subst hw0
    obtain rfl : 0 = m := hl
    obtain ⟨B, d, rfl⟩ := own_form hown
    obtain ⟨i, hi, hz, hsize, hb⟩ := info_parts infoCrs
    have hcc := own_caps hown
    have hrun := run_app0 (P := Try.prog) w 40 o.type 47 i Try.underlying40 hi B n d c hcc.1
    unfold Oper.wp execOp
    simp only [ho, resolve, invoke, builtin, Sem.run_bind, Sem.run_pure, Result.andThen_ok, List.map_toArray, List.map_cons, List.map_nil, hs, hx, hrun]
    exact hK _ _ (h B d w (by rw [List.append_nil]; exact hown) ⟨rfl, rfl, rfl, Nat.le_refl _, fun _ _ _ => rfl⟩)
  | some ad =>
    refine wp_appN s x 40 ho base 47 (.agg #[.int .i64 0, .int .i64 0, .int .i64 0, .int .i64 0]) 4 32 Try.underlying40 infoCrs rfl (by omega) (by omega) v n (qsC xs) hs hown ad m c (qsC ws) hx (by rw [qsC_len, hl]) ?_ (one_qs ws) hn hbase ?_
    · cases ws with
      | nil => intro j u hu; simp [qsC] at hu
      | cons y ws =>
        obtain ⟨b, o', e, hb, hc⟩ := rdQ_from hr (by simp)
        injection e with e
        subst e
        exact hc
    · intro v' w' hown' hgrow' _ _
      obtain ⟨A', c', rfl⟩ := own_form hown'
      exact hK _ _ (h A' c' w' (by rw [← happ]; exact hown') hgrow')
set_option maxRecDepth 100000 in
theorem cloneQ (A : Option Addr) (n c : Nat) (ds : List Q4) (w : World) (hr : RdQ w w.heap.size A ds) (hl : ds.length = n) (hn : n ≤ 1000000000) :
    Calls Try.prog 39 #[.slice A n c] w fun e w' => ∃ A n c, e = .returned (.slice A n c) ∧ w'.ownsRow w.heap.size 47 4 (.slice A n c) n (qsC ds) ∧ ds.length = n ∧ Below w.heap.size w w' := by
  have HR := Lib.hid hr; clear hr
  cases A with
  | none =>
    have h0 : ds = [] := by
      cases ds with
      | nil => rfl
      | cons y ws => obtain ⟨b, o', e, _⟩ := HR.out 0 y rfl; cases e
    subst h0
    have E := fun W => run_eqlnil (P := Try.prog) W 40 47 none n c Try.underlying40
    simp only [Option.isNone_none] at E
    obtain rfl : 0 = n := hl
    go_enter Try.func39, Try.ntmps39
    go_wp2
    go_ret
    exact ⟨none, 0, 0, rfl, World.ownsRow_nil _ _ _ _, rfl, Below.refl _ _⟩
  | some ad =>
    have E := fun W => run_eqlnil (P := Try.prog) W 40 47 (some ad) n c Try.underlying40
    simp only [Option.isNone_some] at E
    go_enter Try.func39, Try.ntmps39
    go_wp2_with (at_builtin; refine wpList_appQ rfl (.tmp 5) (.tmp 6) rfl w.heap.size (.slice (some ⟨w.heap.size, 0, none⟩) 0 0) 0 [] rfl (own_lit0 (Nat.le_refl _)) (some ad) n c ds rfl (HR.out.up (by go_grown)) hl (by omega) (by simp) ?_)
    intro A' c' w' hown hgrow
    have hb : Below w.heap.size w w' := ((Below.refl _ w).alloc (Nat.le_refl _) (.cells #[] 47)).grown hgrow (by simp) (fun k hk => by simp [Value.ownBlock] at hk; omega)
    have HO := Lib.hid hown; clear hown
    go_wp2
    go_ret
    exact ⟨A', n, c', by simp, by simpa using HO.out, hl, hb⟩
theorem infoPn16 : (Try.prog.info? 56).map (fun i => (i.zero, i.size, i.bytes)) = some (some (.agg #[.int .i64 0, .int .i64 0, .int .i64 0, .int .i64 0]), 4, 32) := by kernel_rfl
def clRows (X P : Value) (xs ps : List Q4) : List RowD := [⟨47, 4, X, xs.length, qsC xs⟩, ⟨56, 4, P, ps.length, qsC ps⟩]
theorem clRows_new {W : World} {B g : Nat} {t : Int} {X : Value} {xs : List Q4} (hB : B ≤ g) (hc : Has W g 43 [.int .i64 t, X, .slice none 0 0]) (ho : W.ownsRow B 47 4 X xs.length (qsC xs)) : RowsH W B g 43 [.int .i64 t] (clRows X (.slice none 0 0) xs []) := by
  refine ⟨hc, ?_, rows_d (by simp [clRows]), rows_t (by simp [clRows]), hB, Nat.le_trans hB (Nat.le_of_lt hc.lt)⟩
  intro i r hi
  have hm := mem_of_get hi
  simp only [clRows, List.mem_cons, List.not_mem_nil, or_false] at hm
  rcases hm with rfl | rfl
  · exact ho
  · exact World.ownsRow_nil _ _ _ _
theorem clRows_pin (X P P' : Value) (xs ps : List Q4) (q : Q4) : clRows X P' xs (ps ++ [q]) = (clRows X P xs ps).set 1 ⟨56, 4, P', ps.length + 1, qsC ps ++ q4C q⟩ := by
  simp [clRows, qsC_app]
/-- an ending: a cloth -/
def RetCl (t : Int) (xs ps : List Q4) (w : World) (e : Ending) (w' : World) : Prop := ∃ A n c D m d, e = .returned (vCloth t A n c D m d) ∧ RdQ w' w'.heap.size A xs ∧ RdQ w' w'.heap.size D ps ∧ xs.length = n ∧ ps.length = m ∧ Below w.heap.size w w'
/-- as RetCl, and both slices are rows of the call's own -/
def RetClO (t : Int) (xs ps : List Q4) (w : World) (e : Ending) (w' : World) : Prop := ∃ A n c D m d, e = .returned (vCloth t A n c D m d) ∧ w'.ownsRow (w.heap.size + 1) 47 4 (.slice A n c) n (qsC xs) ∧ w'.ownsRow (w.heap.size + 1) 56 4 (.slice D m d) m (qsC ps) ∧ xs.length = n ∧ ps.length = m ∧ Below w.heap.size w w'
set_option maxRecDepth 100000 in
set_option maxHeartbeats 8000000 in
theorem clothCO (B g : Nat) (p s : Int) (z : Pil) (S M V L X P : Value) (W : World) (h : PilH W B g p s z S M V L X P) (hp : 0 < p ∧ p ≤ 24) (hn : z.xs.length ≤ 1000000) (hn2 : z.ps.length ≤ 1000000) :
    Calls Try.prog 15 #[.pointer (some ⟨g, 0, none⟩)] W (RetClO (2 * p) z.xs (z.ps.map Pn.q) W) := by
  have o4 : W.ownsRow B 47 4 X z.xs.length (qsC z.xs) := h.o 4 _ rfl
  have o5 : W.ownsRow B 91 6 P z.ps.length (pnsC z.ps) := h.o 5 _ rfl
  obtain ⟨XA, xc, rfl⟩ := own_form o4
  obtain ⟨PA, pc, rfl⟩ := own_form o5
  have RX := Lib.hid (own_rdQ o4)
  have O5 := Lib.hid o5
  have h1 := RowsH.below h ((Below.refl W.heap.size W).alloc (Nat.le_refl _) (.cells #[.int .i64 0, .slice none 0 0, .slice none 0 0] 43))
  have K1 : Has (W.alloc (.cells #[.int .i64 0, .slice none 0 0, .slice none 0 0] 43)) W.heap.size 43 [.int .i64 0, .slice none 0 0, .slice none 0 0] := Has.new rfl
  have BA := Lib.hid (show Below W.heap.size W (W.alloc (.cells #[.int .i64 0, .slice none 0 0, .slice none 0 0] 43)) by go_grown)
  have a0 : (W.alloc (.cells #[.int .i64 0, .slice none 0 0, .slice none 0 0] 43)).cell? ⟨g, 0, none⟩ = some (.int .i64 p) := RowsH.cell h1 0
  have a7 : (W.alloc (.cells #[.int .i64 0, .slice none 0 0, .slice none 0 0] 43)).cell? ⟨g, 7, none⟩ = some (.slice XA z.xs.length xc) := RowsH.cell h1 7
  have CM := Lib.hid (madeC g p _ hp.1 a0)
  have hg := h.c.lt
  have z1 : (W.alloc (.cells #[.int .i64 0, .slice none 0 0, .slice none 0 0] 43)).heap.size = W.heap.size + 1 := by simp
  have i1 : IntKind.i64.wrap (2 * p) = 2 * p := IntWalk.i64_in _ (by omega)
  have HA0 := Lib.hid a0
  have HA7 := Lib.hid a7
  have H1 := Lib.hid h1
  have HW0 : Hid (W.cell? ⟨g, 0, none⟩ = some (.int .i64 p)) := RowsH.cell h 0
  have HW7 : Hid (W.cell? ⟨g, 7, none⟩ = some (.slice XA z.xs.length xc)) := RowsH.cell h 7
  have CC := Lib.hid (fun (W' : World) (hb : Below W.heap.size W W') => cloneQ XA z.xs.length xc z.xs W' (RX.out.up hb) rfl (by omega))
  have ngk : g ≠ W.heap.size := by omega
  have ngk2 : W.heap.size ≠ g := by omega
  clear h o4 o5 h1
  go_enter Try.func15, Try.ntmps15
  go_wp2_with fail
  refine CM.out.mono ?_
  rintro e w1 ⟨rfl, rfl⟩
  have K1' := Lib.hid K1
  clear K1 CM
  go_wp2
  obtain ⟨W1, hW1⟩ : ∃ W1, W1 = W.alloc (.cells #[.int .i64 0, .slice none 0 0, .slice none 0 0] 43) := ⟨_, rfl⟩
  rw [← hW1] at K1' BA a0 a7 HA0 HA7 H1 z1 ⊢
  clear hW1
  have hz1 : W.heap.size ≤ W1.heap.size := by omega
  have hne1 : g ≠ W1.heap.size := by omega
  have F : Hid (∀ W', Below (W.heap.size + 1) W1 W' → W'.cell? ⟨g, 0, none⟩ = some (.int .i64 p) ∧ W'.cell? ⟨g, 7, none⟩ = some (.slice XA z.xs.length xc)) := fun W' hb => ⟨(hb.cell (p := ⟨g, 0, none⟩) (Nat.lt_succ_of_lt hg)).trans HA0.out, (hb.cell (p := ⟨g, 7, none⟩) (Nat.lt_succ_of_lt hg)).trans HA7.out⟩
  refine wp_region_join (fun a' a'' W' => ∃ g3 A2 c2, a'' = ((((((((((((a'.put (some 10) (.pointer (some ⟨g, 0, none⟩))).put (some 11) (.pointer (some ⟨g, 0, none⟩))).put (some 12) (.pointer (some ⟨g, 0, none⟩))).put (some 13) (.int .i64 p)).put (some 14) (.int .i64 (2 * p))).put (some 15) (.pointer (some ⟨g, 0, none⟩))).put (some 16) (.pointer (some ⟨g, 0, none⟩))).put (some 17) (.pointer (some ⟨g, 7, none⟩))).put (some 18) (.slice XA z.xs.length xc)).put (some 19) (.slice A2 z.xs.length c2)).put (some 20) (.agg #[.int .i64 (2 * p), .slice A2 z.xs.length c2, .slice none 0 0])).put (some 3) (.pointer (some ⟨g3, 0, none⟩))) ∧ Has W' g3 43 [.int .i64 (2 * p), .slice A2 z.xs.length c2, .slice none 0 0] ∧ W'.ownsRow (W.heap.size + 1) 47 4 (.slice A2 z.xs.length c2) z.xs.length (qsC z.xs) ∧ W.heap.size + 1 ≤ g3 ∧ Below (W.heap.size + 1) W1 W') ?_ ?_
  · refine wp_region_noPanic ?_
    refine wp_region_B (fun b w' => w'.cell? ⟨g, 0, none⟩ = some (.int .i64 p) ∧ w'.cell? ⟨g, 7, none⟩ = some (.slice XA z.xs.length xc) ∧ (b = false → True)) 12 (by kernel_rfl) ?_
    have Bd : Below (W.heap.size + 1) W1 W1.drew := (Below.refl _ _).drew
    have zd : W.heap.size + 1 ≤ W1.drew.heap.size := Nat.le_of_eq z1.symm
    generalize W1.drew = Wd at *
    refine wpAnyB_take (i := 0) (oi := _) (v := ?vvtq1) (fun w' => w'.cell? ⟨g, 0, none⟩ = some (.int .i64 p) ∧ w'.cell? ⟨g, 7, none⟩ = some (.slice XA z.xs.length xc)) rfl (by kernel_rfl) (by kernel_rfl) (by kernel_rfl) (by kernel_rfl) (by rfl) (fun _ h => ⟨h.1, h.2.1⟩) (.inl fun _ h => ⟨h.1, h.2.1⟩) (fun _ _ _ h => h) (.inl ⟨by rfl, ?hytq1⟩) ⟨(F.out _ Bd).1, (F.out _ Bd).2, fun _ => trivial⟩ ?_
    case hytq1 =>
      intro w' hSw
      try dsimp only at hSw
      go_simp
      all_goals with_reducible rfl
    try simp only [Act.put, List.setIfInBounds_toArray, List.set_cons_zero, List.set_cons_succ]
    refine wpAnyB_take (i := 1) (oi := _) (v := ?vvtq2) (fun w' => w'.cell? ⟨g, 0, none⟩ = some (.int .i64 p) ∧ w'.cell? ⟨g, 7, none⟩ = some (.slice XA z.xs.length xc)) rfl (by kernel_rfl) (by kernel_rfl) (by kernel_rfl) (by kernel_rfl) (by rfl) (fun _ h => ⟨h.1, h.2.1⟩) (.inl fun _ h => ⟨h.1, h.2.1⟩) (fun _ _ _ h => h) (.inl ⟨by rfl, ?hytq2⟩) ⟨(F.out _ Bd).1, (F.out _ Bd).2, fun _ => trivial⟩ ?_
    case hytq2 =>
      intro w' hSw
      try dsimp only at hSw
      go_simp
      all_goals with_reducible rfl
    try simp only [Act.put]
    refine wpAnyB_take (i := 2) (oi := _) (v := ?vvtq3) (fun w' => w'.cell? ⟨g, 0, none⟩ = some (.int .i64 p) ∧ w'.cell? ⟨g, 7, none⟩ = some (.slice XA z.xs.length xc)) rfl (by kernel_rfl) (by kernel_rfl) (by kernel_rfl) (by kernel_rfl) (by rfl) (fun _ h => ⟨h.1, h.2.1⟩) (.inl fun _ h => ⟨h.1, h.2.1⟩) (fun _ _ _ h => h) (.inl ⟨by rfl, ?hytq3⟩) ⟨(F.out _ Bd).1, (F.out _ Bd).2, fun _ => trivial⟩ ?_
    case hytq3 =>
      intro w' hSw
      try dsimp only at hSw
      go_simp
      all_goals with_reducible rfl
    try simp only [Act.put]
    refine wpAnyB_take (i := 3) (oi := _) (v := ?vvtq4) (fun w' => w'.cell? ⟨g, 0, none⟩ = some (.int .i64 p) ∧ w'.cell? ⟨g, 7, none⟩ = some (.slice XA z.xs.length xc)) rfl (by kernel_rfl) (by kernel_rfl) (by kernel_rfl) (by kernel_rfl) (by rfl) (fun _ h => ⟨h.1, h.2.1⟩) (.inl fun _ h => ⟨h.1, h.2.1⟩) (fun _ _ _ h => h) (.inl ⟨by rfl, ?hytq4⟩) ⟨(F.out _ Bd).1, (F.out _ Bd).2, fun _ => trivial⟩ ?_
    case hytq4 =>
      intro w' hSw
      try dsimp only at hSw
      go_simp
      all_goals with_reducible rfl
    try simp only [Act.put]
    refine wpAnyB_take (i := 4) (oi := _) (v := ?vvtq5) (fun w' => w'.cell? ⟨g, 0, none⟩ = some (.int .i64 p) ∧ w'.cell? ⟨g, 7, none⟩ = some (.slice XA z.xs.length xc)) rfl (by kernel_rfl) (by kernel_rfl) (by kernel_rfl) (by kernel_rfl) (by rfl) (fun _ h => ⟨h.1, h.2.1⟩) (.inl fun _ h => ⟨h.1, h.2.1⟩) (fun _ _ _ h => h) (.inl ⟨by rfl, ?hytq5⟩) ⟨(F.out _ Bd).1, (F.out _ Bd).2, fun _ => trivial⟩ ?_
    case hytq5 =>
      intro w' hSw
      try dsimp only at hSw
      go_simp
      all_goals with_reducible rfl
    try simp only [Act.put]
    refine wpAnyB_take (i := 5) (oi := _) (v := ?vvtq6) (fun w' => w'.cell? ⟨g, 0, none⟩ = some (.int .i64 p) ∧ w'.cell? ⟨g, 7, none⟩ = some (.slice XA z.xs.length xc)) rfl (by kernel_rfl) (by kernel_rfl) (by kernel_rfl) (by kernel_rfl) (by rfl) (fun _ h => ⟨h.1, h.2.1⟩) (.inl fun _ h => ⟨h.1, h.2.1⟩) (fun _ _ _ h => h) (.inl ⟨by rfl, ?hytq6⟩) ⟨(F.out _ Bd).1, (F.out _ Bd).2, fun _ => trivial⟩ ?_
    case hytq6 =>
      intro w' hSw
      try dsimp only at hSw
      go_simp
      all_goals with_reducible rfl
    try simp only [Act.put]
    refine wpAnyB_take (i := 6) (oi := _) (v := ?vvtq7) (fun w' => w'.cell? ⟨g, 0, none⟩ = some (.int .i64 p) ∧ w'.cell? ⟨g, 7, none⟩ = some (.slice XA z.xs.length xc)) rfl (by kernel_rfl) (by kernel_rfl) (by kernel_rfl) (by kernel_rfl) (by rfl) (fun _ h => ⟨h.1, h.2.1⟩) (.inl fun _ h => ⟨h.1, h.2.1⟩) (fun _ _ _ h => h) (.inl ⟨by rfl, ?hytq7⟩) ⟨(F.out _ Bd).1, (F.out _ Bd).2, fun _ => trivial⟩ ?_
    case hytq7 =>
      intro w' hSw
      try dsimp only at hSw
      go_simp
      all_goals with_reducible rfl
    try simp only [Act.put]
    refine wpAnyB_take (i := 7) (oi := _) (v := ?vvtq8) (fun w' => w'.cell? ⟨g, 0, none⟩ = some (.int .i64 p) ∧ w'.cell? ⟨g, 7, none⟩ = some (.slice XA z.xs.length xc)) rfl (by kernel_rfl) (by kernel_rfl) (by kernel_rfl) (by kernel_rfl) (by rfl) (fun _ h => ⟨h.1, h.2.1⟩) (.inl fun _ h => ⟨h.1, h.2.1⟩) (fun _ _ _ h => h) (.inl ⟨by rfl, ?hytq8⟩) ⟨(F.out _ Bd).1, (F.out _ Bd).2, fun _ => trivial⟩ ?_
    case hytq8 =>
      intro w' hSw
      try dsimp only at hSw
      go_simp
      all_goals with_reducible rfl
    try simp only [Act.put]
    refine wpAnyB_take (i := 8) (oi := _) (v := ?vvtq9) (fun w' => w'.cell? ⟨g, 0, none⟩ = some (.int .i64 p) ∧ w'.cell? ⟨g, 7, none⟩ = some (.slice XA z.xs.length xc)) rfl (by kernel_rfl) (by kernel_rfl) (by kernel_rfl) (by kernel_rfl) (by rfl) (fun _ h => ⟨h.1, h.2.1⟩) (.inl fun _ h => ⟨h.1, h.2.1⟩) (fun _ _ _ h => h) (.inl ⟨by rfl, ?hytq9⟩) ⟨(F.out _ Bd).1, (F.out _ Bd).2, fun _ => trivial⟩ ?_
    case hytq9 =>
      intro w' hSw
      try dsimp only at hSw
      go_simp
      all_goals with_reducible rfl
    try simp only [Act.put]
    refine wpAnyB_two (i := 9) (j := 11) false rfl rfl (by kernel_rfl) (by kernel_rfl) (by kernel_rfl) ?_ ?_
    · intro KK hKK
      go_simp
      go_at_call 39
      refine (CC.out _ (BA.out.trans (Bd.mono (Nat.le_succ _)))).mono ?_
      rintro e Wq13 ⟨A2, n2, c2, rfl, r2, l2, hb5⟩
      obtain rfl : z.xs.length = n2 := l2
      have Bq10 := Bd.trans (hb5.mono zd)
      have zq11 := Nat.le_trans zd hb5.size
      have oq14 := own_mono r2 zd
      refine hKK.out _ _ ⟨(F.out _ Bq10).1, (F.out _ Bq10).2, fun _ => trivial⟩ ?_
      clear hKK KK
      try simp only [Act.put, List.setIfInBounds_toArray, List.set_cons_zero, List.set_cons_succ]
      refine wpAnyB_take (i := 10) (oi := _) (v := ?vvtq25) (fun w' => w'.cell? ⟨g, 0, none⟩ = some (.int .i64 p) ∧ w'.cell? ⟨g, 7, none⟩ = some (.slice XA z.xs.length xc)) rfl (by kernel_rfl) (by kernel_rfl) (by kernel_rfl) (by kernel_rfl) (by rfl) (fun _ h => ⟨h.1, h.2.1⟩) (.inl fun _ h => ⟨h.1, h.2.1⟩) (fun _ _ _ h => h) (.inl ⟨by rfl, ?hytq25⟩) ⟨(F.out _ Bq10).1, (F.out _ Bq10).2, fun _ => trivial⟩ ?_
      case hytq25 =>
        intro w' hSw
        try dsimp only at hSw
        go_simp
        all_goals with_reducible rfl
      try simp only [Act.put, List.setIfInBounds_toArray]
      refine wpAnyB_one (i := 11) false rfl (by kernel_rfl) (by kernel_rfl) ?_
      intro KK hKK
      go_simp
      have Bq26 := Bq10.alloc zq11 (.cells #[.int .i64 0, .slice none 0 0, .slice none 0 0] 43)
      have zq27 : W.heap.size + 1 ≤ (Wq13.alloc (.cells #[.int .i64 0, .slice none 0 0, .slice none 0 0] 43)).heap.size := by simp; omega
      have Kq28 : Has (Wq13.alloc (.cells #[.int .i64 0, .slice none 0 0, .slice none 0 0] 43)) Wq13.heap.size 43 [.int .i64 0, .slice none 0 0, .slice none 0 0] := Has.new rfl
      have oq30 := own_below oq14 ((Below.refl Wq13.heap.size Wq13).alloc (Nat.le_refl _) (.cells #[.int .i64 0, .slice none 0 0, .slice none 0 0] 43))
      generalize (Wq13.alloc (.cells #[.int .i64 0, .slice none 0 0, .slice none 0 0] 43)) = Wq29 at *
      refine hKK.out _ _ ⟨(F.out _ Bq26).1, (F.out _ Bq26).2, fun _ => trivial⟩ ?_
      clear hKK KK
      try simp only [Act.put, List.setIfInBounds_toArray, List.set_cons_zero, List.set_cons_succ]
      refine wpAnyB_one (i := 12) true rfl (by kernel_rfl) (by kernel_rfl) ?_
      intro KK hKK
      have k0 := Kq28.cell 0
      have k1 := Kq28.cell 1
      have k2 := Kq28.cell 2
      have f0 := Kq28.free 0
      have f1 := Kq28.free 1
      have f2 := Kq28.free 2
      have q8 := Kq28.lt
      go_simp
      have B9 := ((Bq26.setCell (p := ⟨Wq13.heap.size, 0, none⟩) zq11 (.int .i64 (2 * p))).setCell (p := ⟨Wq13.heap.size, 1, none⟩) zq11 (.slice A2 z.xs.length c2)).setCell (p := ⟨Wq13.heap.size, 2, none⟩) zq11 (.slice none 0 0)
      have K9 := ((Kq28.set 0 (.int .i64 (2 * p))).set 1 (.slice A2 z.xs.length c2)).set 2 (.slice none 0 0)
      have nbo : (Value.slice A2 z.xs.length c2).ownBlock ≠ some Wq13.heap.size := Kq28.ne_own oq30 (show 43 ≠ 47 by decide)
      have o9 := ownsRow_setCell_other (ownsRow_setCell_other (ownsRow_setCell_other oq30 (a := ⟨Wq13.heap.size, 0, none⟩) nbo (.int .i64 (2 * p))) (a := ⟨Wq13.heap.size, 1, none⟩) nbo (.slice A2 z.xs.length c2)) (a := ⟨Wq13.heap.size, 2, none⟩) nbo (.slice none 0 0)
      refine hKK.out _ _ ⟨(F.out _ B9).1, (F.out _ B9).2, fun hh => by cases hh⟩ ?_
      clear hKK KK
      try simp only [Act.put, List.setIfInBounds_toArray, List.set_cons_zero, List.set_cons_succ]
      refine wpAnyB_done (by kernel_rfl) (NoPanic.normal ?_) _
      exact ⟨rfl, Wq13.heap.size, A2, c2, rfl, K9, o9, zq11, B9⟩
    · intro KK hKK
      go_simp
      have Bq15 := Bd.alloc zd (.cells #[.int .i64 0, .slice none 0 0, .slice none 0 0] 43)
      have zq16 : W.heap.size + 1 ≤ (Wd.alloc (.cells #[.int .i64 0, .slice none 0 0, .slice none 0 0] 43)).heap.size := by simp; omega
      have Kq17 : Has (Wd.alloc (.cells #[.int .i64 0, .slice none 0 0, .slice none 0 0] 43)) Wd.heap.size 43 [.int .i64 0, .slice none 0 0, .slice none 0 0] := Has.new rfl
      generalize (Wd.alloc (.cells #[.int .i64 0, .slice none 0 0, .slice none 0 0] 43)) = Wq18 at *
      refine hKK.out _ _ ⟨(F.out _ Bq15).1, (F.out _ Bq15).2, fun _ => trivial⟩ ?_
      clear hKK KK
      try simp only [Act.put, List.setIfInBounds_toArray, List.set_cons_zero, List.set_cons_succ]
      refine wpAnyB_one (i := 9) false rfl (by kernel_rfl) (by kernel_rfl) ?_
      intro KK hKK
      go_simp
      go_at_call 39
      refine (CC.out _ (BA.out.trans (Bq15.mono (Nat.le_succ _)))).mono ?_
      rintro e Wq23 ⟨A2, n2, c2, rfl, r2, l2, hb5⟩
      obtain rfl : z.xs.length = n2 := l2
      have Bq20 := Bq15.trans (hb5.mono zq16)
      have zq21 := Nat.le_trans zq16 hb5.size
      have oq24 := own_mono r2 zq16
      have Kq22 := Kq17.below hb5 Kq17.lt
      refine hKK.out _ _ ⟨(F.out _ Bq20).1, (F.out _ Bq20).2, fun _ => trivial⟩ ?_
      clear hKK KK
      try simp only [Act.put, List.setIfInBounds_toArray, List.set_cons_zero, List.set_cons_succ]
      refine wpAnyB_take (i := 10) (oi := _) (v := ?vvtq31) (fun w' => w'.cell? ⟨g, 0, none⟩ = some (.int .i64 p) ∧ w'.cell? ⟨g, 7, none⟩ = some (.slice XA z.xs.length xc)) rfl (by kernel_rfl) (by kernel_rfl) (by kernel_rfl) (by kernel_rfl) (by rfl) (fun _ h => ⟨h.1, h.2.1⟩) (.inl fun _ h => ⟨h.1, h.2.1⟩) (fun _ _ _ h => h) (.inl ⟨by rfl, ?hytq31⟩) ⟨(F.out _ Bq20).1, (F.out _ Bq20).2, fun _ => trivial⟩ ?_
      case hytq31 =>
        intro w' hSw
        try dsimp only at hSw
        go_simp
        all_goals with_reducible rfl
      try simp only [Act.put, List.setIfInBounds_toArray]
      refine wpAnyB_one (i := 12) true rfl (by kernel_rfl) (by kernel_rfl) ?_
      intro KK hKK
      have k0 := Kq22.cell 0
      have k1 := Kq22.cell 1
      have k2 := Kq22.cell 2
      have f0 := Kq22.free 0
      have f1 := Kq22.free 1
      have f2 := Kq22.free 2
      have q8 := Kq22.lt
      go_simp
      have B9 := ((Bq20.setCell (p := ⟨Wd.heap.size, 0, none⟩) zd (.int .i64 (2 * p))).setCell (p := ⟨Wd.heap.size, 1, none⟩) zd (.slice A2 z.xs.length c2)).setCell (p := ⟨Wd.heap.size, 2, none⟩) zd (.slice none 0 0)
      have K9 := ((Kq22.set 0 (.int .i64 (2 * p))).set 1 (.slice A2 z.xs.length c2)).set 2 (.slice none 0 0)
      have nbo : (Value.slice A2 z.xs.length c2).ownBlock ≠ some Wd.heap.size := Kq22.ne_own oq24 (show 43 ≠ 47 by decide)
      have o9 := ownsRow_setCell_other (ownsRow_setCell_other (ownsRow_setCell_other oq24 (a := ⟨Wd.heap.size, 0, none⟩) nbo (.int .i64 (2 * p))) (a := ⟨Wd.heap.size, 1, none⟩) nbo (.slice A2 z.xs.length c2)) (a := ⟨Wd.heap.size, 2, none⟩) nbo (.slice none 0 0)
      refine hKK.out _ _ ⟨(F.out _ B9).1, (F.out _ B9).2, fun hh => by cases hh⟩ ?_
      clear hKK KK
      try simp only [Act.put, List.setIfInBounds_toArray, List.set_cons_zero, List.set_cons_succ]
      refine wpAnyB_done (by kernel_rfl) (NoPanic.normal ?_) _
      exact ⟨rfl, Wd.heap.size, A2, c2, rfl, K9, o9, zd, B9⟩
  · rintro a' W3 ⟨g3, A2, c2, rfl, hG, hO, hg3, hB⟩
    go_simp
    have HR3 := Lib.hid (clRows_new hg3 hG hO)
    have HB3 := Lib.hid hB
    have a8 : W3.cell? ⟨g, 8, none⟩ = some (.slice PA z.ps.length pc) := (hB.cell (p := ⟨g, 8, none⟩) (Nat.lt_succ_of_lt hg)).trans (RowsH.cell H1.out 8)
    have hgW3 : g < W3.heap.size := Nat.lt_of_lt_of_le (Nat.lt_of_lt_of_le hg hz1) hB.size
    clear hG hO hB a0 a7 HA0 HA7 CC HW0 HW7
    go_wp2
    go_loopw [26] (fun iv wr => ∃ (k : Nat) (D : Value), k ≤ z.ps.length ∧ iv = .int .i64 (k : Int) ∧ Hid (RowsH wr (W.heap.size + 1) g3 43 [.int .i64 (2 * p)] (clRows (.slice A2 z.xs.length c2) D z.xs ((z.ps.map Pn.q).take k))) ∧ Hid (Below (W.heap.size + 1) W1 wr)) (fun iv _ => z.ps.length - (intOf iv).toNat)
    case atStart => exact ⟨0, _, Nat.zero_le _, rfl, HR3, HB3⟩
    case round =>
      clear HR3 HB3 a8 hgW3
      obtain ⟨k, D, hk, rfl, HR, HB⟩ := hrel
      obtain ⟨wo, rfl⟩ : ∃ wo : World, wo = wr := ⟨_, rfl⟩
      have BW : Below W.heap.size W wo := BA.out.trans (HB.out.mono (Nat.le_succ _))
      have hlk : ((z.ps.map Pn.q).take k).length = k := by rw [List.length_take, List.length_map]; omega
      have o1 : wo.ownsRow (W.heap.size + 1) 56 4 D k (qsC ((z.ps.map Pn.q).take k)) := by
        have o1 : wo.ownsRow (W.heap.size + 1) 56 4 D ((z.ps.map Pn.q).take k).length (qsC ((z.ps.map Pn.q).take k)) := HR.out.o 1 _ rfl
        rw [hlk] at o1; exact o1
      obtain ⟨DA, dc, rfl⟩ := own_form o1
      have HLK := Lib.hid hlk
      by_cases hlt : k < z.ps.length
      · have jk : (k : Int) < (z.ps.length : Int) := by omega
        obtain ⟨x, hx⟩ := get_of_lt hlt
        have HTK : Hid ((z.ps.map Pn.q).take (k + 1) = (z.ps.map Pn.q).take k ++ [x.q]) := by
          show _ = _
          rw [List.take_add_one, List.getElem?_map, hx]; rfl
        have C := fun i hi => pnsC_at hx i hi
        obtain ⟨bp, rfl, hbp, hbp2, c0'⟩ := own_at O5.out (j := k * 6 + 0) (u := .int .i64 x.q.a) (C 0 (by decide))
        have CC : Hid (∀ i u, i < 6 → (pnC x)[i]? = some u → wo.cell? ⟨bp, k * 6 + i, none⟩ = some u) := fun i u hi hu => by
          obtain ⟨bp', e', _, _, c'⟩ := own_at O5.out (j := k * 6 + i) (u := u) ((C i hi).trans hu)
          injection e' with e'
          injection e' with e'
          subst e'
          exact (BW.cell (p := ⟨bp, k * 6 + i, none⟩) hbp2).trans c'
        have c0 : wo.cell? ⟨bp, k * 6, none⟩ = some (.int .i64 x.q.a) := CC.out 0 _ (by decide) rfl
        have c1 : wo.cell? ⟨bp, k * 6 + 1, none⟩ = some (.int .i64 x.q.b) := CC.out 1 _ (by decide) rfl
        have c2' : wo.cell? ⟨bp, k * 6 + 2, none⟩ = some (.int .i64 x.q.c) := CC.out 2 _ (by decide) rfl
        have c3 : wo.cell? ⟨bp, k * 6 + 3, none⟩ = some (.int .i64 x.q.d) := CC.out 3 _ (by decide) rfl
        have c4 : wo.cell? ⟨bp, k * 6 + 4, none⟩ = some (.bool x.sew) := CC.out 4 _ (by decide) rfl
        have c5 : wo.cell? ⟨bp, k * 6 + 5, none⟩ = some (.bool x.out) := CC.out 5 _ (by decide) rfl
        clear c0' C hx CC
        obtain ⟨q, sw, ot⟩ := x
        obtain ⟨xa, xb, xc', xd⟩ := q
        simp only [] at c0 c1 c2' c3 c4 c5
        have a2 : wo.cell? ⟨g3, 2, none⟩ = some (.slice DA k dc) := RowsH.cell HR.out 2
        have qg3 := HR.out.c.lt
        have zz := HR.out.z
        have hKK := Lib.hid (fun (W' : World) (A4 : Option Addr) (c4 : Nat) (h1 : ((wo.alloc (.cells #[.int .i64 xa, .int .i64 xb, .int .i64 xc', .int .i64 xd, .bool sw, .bool ot] 91)).alloc (.cells #[.int .i64 xa, .int .i64 xb, .int .i64 xc', .int .i64 xd] 56)).grownBy W' (Value.slice DA k dc).ownBlock) (h2 : W'.ownsRow (W.heap.size + 1) 56 4 (.slice A4 (k + 1) c4) (k + 1) (qsC ((z.ps.map Pn.q).take k) ++ q4C ⟨xa, xb, xc', xd⟩)) => RowsH.grow (RowsH.below (RowsH.below HR.out ((Below.refl _ wo).alloc (Nat.le_refl _) (.cells #[.int .i64 xa, .int .i64 xb, .int .i64 xc', .int .i64 xd, .bool sw, .bool ot] 91))) ((Below.refl _ (wo.alloc (.cells #[.int .i64 xa, .int .i64 xb, .int .i64 xc', .int .i64 xd, .bool sw, .bool ot] 91))).alloc (Nat.le_refl _) (.cells #[.int .i64 xa, .int .i64 xb, .int .i64 xc', .int .i64 xd] 56))) (i := 1) rfl h1 h2 2 rfl)
        have C4 := Lib.hid (fun (W' : World) (h1 : ((wo.alloc (.cells #[.int .i64 xa, .int .i64 xb, .int .i64 xc', .int .i64 xd, .bool sw, .bool ot] 91)).alloc (.cells #[.int .i64 xa, .int .i64 xb, .int .i64 xc', .int .i64 xd] 56)).grownBy W' (Value.slice DA k dc).ownBlock) => (RowsH.below (RowsH.below HR.out ((Below.refl _ wo).alloc (Nat.le_refl _) (.cells #[.int .i64 xa, .int .i64 xb, .int .i64 xc', .int .i64 xd, .bool sw, .bool ot] 91))) ((Below.refl _ (wo.alloc (.cells #[.int .i64 xa, .int .i64 xb, .int .i64 xc', .int .i64 xd, .bool sw, .bool ot] 91))).alloc (Nat.le_refl _) (.cells #[.int .i64 xa, .int .i64 xb, .int .i64 xc', .int .i64 xd] 56))).c.same (h1.block _ (RowsH.below (RowsH.below HR.out ((Below.refl _ wo).alloc (Nat.le_refl _) (.cells #[.int .i64 xa, .int .i64 xb, .int .i64 xc', .int .i64 xd, .bool sw, .bool ot] 91))) ((Below.refl _ (wo.alloc (.cells #[.int .i64 xa, .int .i64 xb, .int .i64 xc', .int .i64 xd, .bool sw, .bool ot] 91))).alloc (Nat.le_refl _) (.cells #[.int .i64 xa, .int .i64 xb, .int .i64 xc', .int .i64 xd] 56))).c.lt (fun e => (RowsH.below (RowsH.below HR.out ((Below.refl _ wo).alloc (Nat.le_refl _) (.cells #[.int .i64 xa, .int .i64 xb, .int .i64 xc', .int .i64 xd, .bool sw, .bool ot] 91))) ((Below.refl _ (wo.alloc (.cells #[.int .i64 xa, .int .i64 xb, .int .i64 xc', .int .i64 xd, .bool sw, .bool ot] 91))).alloc (Nat.le_refl _) (.cells #[.int .i64 xa, .int .i64 xb, .int .i64 xc', .int .i64 xd] 56))).ne (i := 1) rfl e.symm)))
        have O1 := Lib.hid ((o1.alloc (.cells #[.int .i64 xa, .int .i64 xb, .int .i64 xc', .int .i64 xd, .bool sw, .bool ot] 91)).alloc (.cells #[.int .i64 xa, .int .i64 xb, .int .i64 xc', .int .i64 xd] 56))
        clear o1
        clear hlk
        go_wp2_with (at_builtin; refine wpList_app rfl (.tmp 31) (.tmp 34) _ rfl (W.heap.size + 1) 56 (.agg #[.int .i64 0, .int .i64 0, .int .i64 0, .int .i64 0]) 4 32 Try.underlying41 infoPn16 rfl (by omega) (by omega) (.slice DA k dc) _ _ rfl O1.out (wo.heap.size + 1) (q4C ⟨xa, xb, xc', xd⟩) rfl rfl (fun j u hu => by have h9 := ((Has.new (w := wo.alloc (.cells #[.int .i64 xa, .int .i64 xb, .int .i64 xc', .int .i64 xd, .bool sw, .bool ot] 91)) (t := 56) (cs := [.int .i64 xa, .int .i64 xb, .int .i64 xc', .int .i64 xd]) rfl).cell j).trans hu; rw [World.size_alloc] at h9; exact h9) (one4 xa xb xc' xd) (by omega) (by simp; omega) ?_; intro g1 cap1 w3 hg1 hown1 hgrow1 hor1; have d4 := C4.out _ hgrow1; have d6 := d4.cell 2; have f6 := d4.free 2; have q4 := d4.lt)
        go_roundw
        case rel =>
          refine ⟨k + 1, .slice (some ⟨g1, 0, none⟩) (k + 1) cap1, by omega, by go_num, ?_, ?_⟩
          · have h6 := hKK.out w3 _ _ hgrow1 hown1
            show RowsH _ _ _ _ _ _
            rw [HTK.out, clRows_pin (.slice A2 z.xs.length c2) (.slice DA k dc), HLK.out]
            exact h6
          · show Below _ _ _
            exact (((HB.out.alloc zz (.cells #[.int .i64 xa, .int .i64 xb, .int .i64 xc', .int .i64 xd, .bool sw, .bool ot] 91)).alloc (by simp; omega) (.cells #[.int .i64 xa, .int .i64 xb, .int .i64 xc', .int .i64 xd] 56)).grown hgrow1 (by simp; omega) (fun k hk => (O1.out.lt k hk).1)).setCell (p := ⟨g3, 2, none⟩) hg3 _
        case measure => first | (simp [intOf]; done) | (simp [intOf]; omega)
      · obtain rfl : k = z.ps.length := by omega
        have jk : ¬ (z.ps.length : Int) < (z.ps.length : Int) := by omega
        have hall : (z.ps.map Pn.q).take z.ps.length = z.ps.map Pn.q := by rw [← List.length_map (f := Pn.q), List.take_length]
        rw [hall] at HR hlk o1
        clear HLK
        have o0 : wo.ownsRow (W.heap.size + 1) 47 4 (.slice A2 z.xs.length c2) z.xs.length (qsC z.xs) := HR.out.o 0 _ rfl
        have O0 := Lib.hid o0
        have O1 := Lib.hid o1
        have K := Lib.hid (K1'.out.below HB.out (Nat.lt_succ_self _))
        have k0 := K.out.cell 0
        have k1 := K.out.cell 1
        have k2 := K.out.cell 2
        have f0 := K.out.free 0
        have f1 := K.out.free 1
        have f2 := K.out.free 2
        have qk := K.out.lt
        have b0 : wo.cell? ⟨g3, 0, none⟩ = some (.int .i64 (2 * p)) := RowsH.cell HR.out 0
        have b1 : wo.cell? ⟨g3, 1, none⟩ = some (.slice A2 z.xs.length c2) := RowsH.cell HR.out 1
        have b2 : wo.cell? ⟨g3, 2, none⟩ = some (.slice DA z.ps.length dc) := RowsH.cell HR.out 2
        have qg3 := HR.out.c.lt
        clear o0 o1
        go_wp2
        refine post_cell (((K.out.set 0 _).set 1 _).set 2 _) rfl rfl rfl Try.underlying43 (by kernel_rfl) ?_
        refine ⟨A2, z.xs.length, c2, DA, z.ps.length, dc, rfl, ?_, ?_, rfl, List.length_map _, ?_⟩
        · exact (ownsRow_setCell_below (ownsRow_setCell_below (ownsRow_setCell_below O0.out (a := ⟨W.heap.size, 0, none⟩) (Nat.lt_succ_self _) _) (a := ⟨W.heap.size, 1, none⟩) (Nat.lt_succ_self _) _) (a := ⟨W.heap.size, 2, none⟩) (Nat.lt_succ_self _) _)
        · exact (ownsRow_setCell_below (ownsRow_setCell_below (ownsRow_setCell_below O1.out (a := ⟨W.heap.size, 0, none⟩) (Nat.lt_succ_self _) _) (a := ⟨W.heap.size, 1, none⟩) (Nat.lt_succ_self _) _) (a := ⟨W.heap.size, 2, none⟩) (Nat.lt_succ_self _) _)
        · exact ((BW.setCell (p := ⟨W.heap.size, 0, none⟩) (Nat.le_refl _) _).setCell (p := ⟨W.heap.size, 1, none⟩) (Nat.le_refl _) _).setCell (p := ⟨W.heap.size, 2, none⟩) (Nat.le_refl _) _
theorem clothC (B g : Nat) (p s : Int) (z : Pil) (S M V L X P : Value) (W : World) (h : PilH W B g p s z S M V L X P) (hp : 0 < p ∧ p ≤ 24) (hn : z.xs.length ≤ 1000000) (hn2 : z.ps.length ≤ 1000000) :
    Calls Try.prog 15 #[.pointer (some ⟨g, 0, none⟩)] W (RetCl (2 * p) z.xs (z.ps.map Pn.q) W) :=
  (clothCO B g p s z S M V L X P W h hp hn hn2).mono (by
    rintro e w' ⟨A, n, c, D, m, d, rfl, h1, h2, h3, h4, h5⟩
    exact ⟨A, n, c, D, m, d, rfl, own_rdQ h1, own_rdQ h2, h3, h4, h5⟩)
end Go.Proofs.Ytaenafcecfdffaa
/-
  Walk of the law PillowKnown: it returns true. Before it: Pull of a pin that is not there, Back of a pillow on which nothing was done.
-/
namespace Go.Proofs.Ytaenafcecfdffaa
open Go.RowKit
set_option maxRecDepth 100000 in
set_option maxHeartbeats 2000000 in
theorem pullK (B g : Nat) (p s : Int) (z : Pil) (S M V L X P : Value) (k : Nat) (x : Pn) (W : World) (h : PilH W B g p s z S M V L X P) (hp : 0 < p) (hx : z.ps[k]? = some x) :
    Calls Try.prog 22 #[.pointer (some ⟨g, 0, none⟩), .int .i64 (k : Int)] W fun e w' => e = .returned (.int .i64 (pullE x)) ∧ PilH w' B g p s (z.pulled k x) S M V L X P ∧ Below B W w' ∧ KeepB (fun r => P.ownBlock = some r) W w' := by
  have o5 : W.ownsRow B 91 6 P z.ps.length (pnsC z.ps) := h.o 5 _ rfl
  obtain ⟨PA, pc, rfl⟩ := own_form o5
  have hk := lt_of_get hx
  obtain ⟨g1, g2⟩ := pnsC_get hx
  obtain ⟨bp, rfl, hbp, hbp2, y4⟩ := own_at o5 g1
  obtain ⟨bp', e', _, _, y5⟩ := own_at o5 g2
  injection e' with e'
  injection e' with e'
  subst e'
  have a8 : W.cell? ⟨g, 8, none⟩ = some (.slice (some ⟨bp, 0, none⟩) z.ps.length pc) := RowsH.cell h 8
  have CM := Lib.hid (madeC g p W hp (RowsH.cell h 0))
  have hg := h.c.lt
  have fz := o5.frozenAt (k * 6 + 5)
  have H := Lib.hid h
  have HX := Lib.hid hx
  have j1 : (k : Int) < (z.ps.length : Int) := by omega
  have d1 : decide ((k : Int) < 0) = false := decide_eq_false (by omega)
  have d2 : decide ((z.ps.length : Int) ≤ (k : Int)) = false := decide_eq_false (by omega)
  have z4 : 0 + k * 6 + 4 = k * 6 + 4 := by omega
  obtain ⟨q, sw, ot⟩ := x
  simp only [] at y4 y5
  clear h o5 hx g1 g2
  cases sw with
  | true =>
    have HQ : Hid (z.pulled k ⟨q, true, ot⟩ = z) := if_neg (by show ¬ (9 : Int) = 0; decide)
    go_enter Try.func22, Try.ntmps22
    go_wp2_with fail
    refine CM.out.mono ?_
    rintro e w1 ⟨rfl, rfl⟩
    go_wp2
    go_ret
    rw [HQ.out]
    exact ⟨rfl, H.out, Below.refl _ _, KeepB.refl _ _⟩
  | false =>
    cases ot with
    | true =>
      have HQ : Hid (z.pulled k ⟨q, false, true⟩ = z) := if_neg (by show ¬ (8 : Int) = 0; decide)
      go_enter Try.func22, Try.ntmps22
      go_wp2_with fail
      refine CM.out.mono ?_
      rintro e w1 ⟨rfl, rfl⟩
      go_wp2
      go_ret
      rw [HQ.out]
      exact ⟨rfl, H.out, Below.refl _ _, KeepB.refl _ _⟩
    | false =>
      go_enter Try.func22, Try.ntmps22
      go_wp2_with fail
      refine CM.out.mono ?_
      rintro e w1 ⟨rfl, rfl⟩
      go_wp2
      go_ret
      refine ⟨rfl, ?_, ?_, KeepB.set (S := fun r => some bp = some r) W rfl _ _⟩
      · show RowsH _ _ _ _ _ _
        rw [show z.pulled k ⟨q, false, false⟩ = z.pull k from if_pos rfl, rows_pull z k _ HX.out]
        have h6 := RowsH.stored H.out (i := 5) rfl (b := bp) (cap := pc) rfl (k * 6 + 5) (.bool true)
        have e : (z.pull k).hands = z.hands := by unfold Pil.pull; rw [HX.out]
        rw [e]
        exact h6
      · exact (Below.refl _ _).setCell (p := ⟨bp, k * 6 + 5, none⟩) hbp _
set_option maxRecDepth 100000 in
set_option maxHeartbeats 2000000 in
theorem pullN (B g : Nat) (p s : Int) (z : Pil) (S M V L X P : Value) (k : Nat) (W : World) (h : PilH W B g p s z S M V L X P) (hp : 0 < p) (hk : z.ps.length ≤ k) (hk2 : k ≤ 1000000) :
    Calls Try.prog 22 #[.pointer (some ⟨g, 0, none⟩), .int .i64 (k : Int)] W fun e w' => e = .returned (.int .i64 4) ∧ W = w' := by
  have o5 : W.ownsRow B 91 6 P z.ps.length (pnsC z.ps) := h.o 5 _ rfl
  obtain ⟨PA, pc, rfl⟩ := own_form o5
  have a8 : W.cell? ⟨g, 8, none⟩ = some (.slice PA z.ps.length pc) := RowsH.cell h 8
  have CM := Lib.hid (madeC g p W hp (RowsH.cell h 0))
  have hg := h.c.lt
  have d1 : decide ((k : Int) < 0) = false := decide_eq_false (by omega)
  have d2 : decide ((z.ps.length : Int) ≤ (k : Int)) = true := decide_eq_true (by omega)
  have j1 : (z.ps.length : Int) ≤ (k : Int) := by omega
  clear h o5
  go_enter Try.func22, Try.ntmps22
  go_wp2_with fail
  refine CM.out.mono ?_
  rintro e w1 ⟨rfl, rfl⟩
  go_wp2
  go_ret
  exact ⟨rfl, rfl⟩
set_option maxRecDepth 100000 in
set_option maxHeartbeats 2000000 in
theorem backN (B g : Nat) (p s : Int) (z : Pil) (S M V L X P : Value) (W : World) (h : PilH W B g p s z S M V L X P) (hp : 0 < p) (hk : z.steps.length = 0) :
    Calls Try.prog 23 #[.pointer (some ⟨g, 0, none⟩)] W fun e w' => e = .returned (.int .i64 9) ∧ Below W.heap.size W w' := by
  have o0 : W.ownsRow B 35 3 S z.steps.length (wksCells z.steps) := h.o 0 _ rfl
  rw [hk] at o0
  obtain ⟨SA, sc, rfl⟩ := own_form o0
  have h1 := RowsH.below h ((Below.refl W.heap.size W).alloc (Nat.le_refl _) (.cells #[.pointer (some ⟨g, 0, none⟩)] 30))
  have CM := Lib.hid (madeC g p _ hp (RowsH.cell h1 0))
  have hg := h.c.lt
  have a3 : W.cell? ⟨g, 3, none⟩ = some (.slice SA 0 sc) := RowsH.cell h 3
  clear h o0 h1 hk
  refine (callsIn_wide (n := 0)).1 (callsIn_of_wp_marks Try.func23 rfl trivial ?_)
  simp only [Try.ntmps23, List.size_toArray, List.length_cons, List.length_nil, Nat.reduceAdd, Nat.reduceSub, Array.replicate_succ, Array.replicate_zero, List.push_toArray, List.append_toArray, List.nil_append, List.cons_append]
  refine wpIn_wide.2 ?_
  go_wp2_with fail
  refine CM.out.mono ?_
  rintro e w2 ⟨rfl, rfl⟩
  clear CM
  go_wp2
  refine ⟨_, results_tmp rfl _ _ _, ?_⟩
  exact ⟨rfl, by go_grown⟩
def knZ3 : Pil := awZ2.pull 0
def knZ4 : Pil := knZ3.back 1 0 0 0 0
def knZ5 : Pil := knZ4.back 0 0 0 0 (-1)
theorem kn_xs : awZ2.xs = [⟨0, 1, 1, 2⟩, ⟨0, 0, 2, 0⟩, ⟨0, 2, 3, 1⟩] := by decide +kernel
theorem kn_ps : awZ2.ps.map Pn.q = [⟨0, 1, 0, 3⟩] := by decide +kernel
theorem kn_save : saveB 2 2 awZ0 = [80, 76, 1, 2, 2, 0, 0] ++ (saveB 2 2 awZ0).drop 7 ∧ (saveB 2 2 awZ0).length = 13 := by decide +kernel
theorem kn_pin : ∃ x, awZ2.ps = [x] ∧ x.sew = false ∧ x.out = false := by
  have h1 : awZ2.ps.length = 1 := by decide +kernel
  have h2 : awZ2.ps.map Pn.sew = [false] := by decide +kernel
  have h3 : awZ2.ps.map Pn.out = [false] := by decide +kernel
  cases h : awZ2.ps with
  | nil => rw [h] at h1; cases h1
  | cons x l =>
    rw [h] at h1 h2 h3
    obtain rfl : l = [] := by cases l with
      | nil => rfl
      | cons y l => simp at h1
    exact ⟨x, rfl, by simpa using h2, by simpa using h3⟩
theorem kn_three : knZ3.steps.length = 2 ∧ knZ3.marks = [⟨-1, 0, 0, 0⟩, ⟨0, 0, 0, 0⟩] ∧ knZ3.works.length = 1 ∧ knZ3.xs.length = 3 ∧ knZ3.ps.length = 1 ∧ knZ3.l.length = 4 ∧ knZ3.xs = [⟨0, 1, 1, 2⟩, ⟨0, 0, 2, 0⟩, ⟨0, 2, 3, 1⟩] := by decide +kernel
theorem kn_four : knZ4.steps.length = 1 ∧ knZ4.marks = [⟨-1, 0, 0, 0⟩] ∧ knZ4.works.length = 0 ∧ knZ4.xs.length = 0 ∧ knZ4.ps.length = 0 ∧ knZ4.l = [0, 1, 2, 3] ∧ knZ4.xs = [] := by decide +kernel
theorem kn_five : knZ5.steps.length = 0 := by decide +kernel
theorem pilK_mem {z : Pil} {S M V L X P : Value} {i : Nat} {r : RowD} (hi : (pilRows z S M V L X P)[i]? = some r) : r.v ∈ [S, M, V, L, X, P] := by
  have hm := mem_of_get hi
  simp only [pilRows, List.mem_cons, List.not_mem_nil, or_false] at hm
  rcases hm with rfl | rfl | rfl | rfl | rfl | rfl <;> simp
theorem pilK_row {W : World} {B g : Nat} {p s : Int} {z : Pil} {S M V L X P : Value} (h : PilH W B g p s z S M V L X P) {v : Value} (hv : v ∈ [S, M, V, L, X, P]) {b : Nat} (hb : v.ownBlock = some b) : B ≤ b ∧ b < W.heap.size := by
  simp only [List.mem_cons, List.not_mem_nil, or_false] at hv
  rcases hv with rfl | rfl | rfl | rfl | rfl | rfl
  · exact (h.o 0 _ rfl).lt b hb
  · exact (h.o 1 _ rfl).lt b hb
  · exact (h.o 2 _ rfl).lt b hb
  · exact (h.o 3 _ rfl).lt b hb
  · exact (h.o 4 _ rfl).lt b hb
  · exact (h.o 5 _ rfl).lt b hb
theorem pilK_lt {W : World} {B g : Nat} {p s : Int} {z : Pil} {S M V L X P : Value} (h : PilH W B g p s z S M V L X P) {b : Nat} (hb : blkV g [S, M, V, L, X, P] b) : b < W.heap.size := by
  rcases hb with rfl | ⟨v, hv, hb⟩
  · exact h.c.lt
  · exact (pilK_row h hv hb).2
section
variable {W : World} {B g : Nat} {S M V L X P : Value}
theorem pil_below {W W' : World} {B g : Nat} {p s : Int} {z : Pil} {S M V L X P : Value} (h : PilH W B g p s z S M V L X P) (k : KeepB (blkV g [S, M, V, L, X, P]) W W') : Below B W W' :=
  k.below (fun r hr => by
    rcases hr with rfl | ⟨v, hv, hb⟩
    · exact h.b
    · exact (pilK_row h hv hb).1) h.z
theorem kn_pull1 (h : PilH W B g 2 2 awZ2 S M V L X P) : Calls Try.prog 22 #[.pointer (some ⟨g, 0, none⟩), .int .i64 0] W fun e w' => e = .returned (.int .i64 0) ∧ PilH w' B g 2 2 knZ3 S M V L X P ∧ Below B W w' ∧ KeepB (fun r => P.ownBlock = some r) W w' := by
  obtain ⟨x, hx, hs, ho⟩ := kn_pin
  have hx0 : awZ2.ps[0]? = some x := by rw [hx]; rfl
  have hp : pullE x = 0 := by unfold pullE; rw [hs, ho]; rfl
  have h1 := pullK B g 2 2 awZ2 S M V L X P 0 x W h (by decide) hx0
  rw [hp, show awZ2.pulled 0 x = knZ3 from if_pos hp] at h1
  exact h1
theorem kn_pull2 (h : PilH W B g 2 2 knZ3 S M V L X P) : Calls Try.prog 22 #[.pointer (some ⟨g, 0, none⟩), .int .i64 0] W fun e w' => e = .returned (.int .i64 8) ∧ PilH w' B g 2 2 knZ3 S M V L X P ∧ Below B W w' ∧ KeepB (fun r => P.ownBlock = some r) W w' := by
  obtain ⟨x, hx, hs, ho⟩ := kn_pin
  have hx0 : awZ2.ps[0]? = some x := by rw [hx]; rfl
  have hz : knZ3.ps = [{ x with out := true }] := by show (awZ2.pull 0).ps = _; unfold Pil.pull; rw [hx0]; simp [hx]
  have hx1 : knZ3.ps[0]? = some { x with out := true } := by rw [hz]; rfl
  have hp : pullE { x with out := true } = 8 := by unfold pullE; simp [hs]
  have h1 := pullK B g 2 2 knZ3 S M V L X P 0 _ W h (by decide) hx1
  rw [hp, show knZ3.pulled 0 { x with out := true } = knZ3 from if_neg (by rw [hp]; decide)] at h1
  exact h1
theorem kn_pull3 (h : PilH W B g 2 2 knZ3 S M V L X P) : Calls Try.prog 22 #[.pointer (some ⟨g, 0, none⟩), .int .i64 1] W fun e w' => e = .returned (.int .i64 4) ∧ W = w' :=
  pullN B g 2 2 knZ3 S M V L X P 1 W h (by decide) (Nat.le_of_eq kn_three.2.2.2.2.1) (by decide)
theorem kn_back1 (h : PilH W B g 2 2 knZ3 S M V L X P) : Calls Try.prog 23 #[.pointer (some ⟨g, 0, none⟩)] W fun e w' => e = .returned (.int .i64 0) ∧ ∃ S' M' V' L' X' P', PilH w' B g 2 2 knZ4 S' M' V' L' X' P' ∧ Below B W w' ∧ KeepB (blkV g [S, M, V, L, X, P]) W w' := by
  obtain ⟨e1, e2, e3, e4, e5, e6, e7⟩ := kn_three
  refine (backC B g 2 2 knZ3 S M V L X P W h (by decide) 1 0 0 0 0 e1 (by rw [e2]; rfl) (by decide) (by rw [e2]; rfl) (Nat.zero_le _) (Nat.zero_le _) (Nat.zero_le _) (fun q hq => ?_) (by rw [e4]; decide) (by rw [e6]; decide) (by rw [e6]; decide)).mono ?_
  · rw [e7] at hq
    rw [e6]
    rcases List.mem_cons.1 hq with rfl | hq
    · exact ⟨1, rfl, by decide⟩
    · rcases List.mem_cons.1 hq with rfl | hq
      · exact ⟨0, rfl, by decide⟩
      · rcases List.mem_cons.1 hq with rfl | hq
        · exact ⟨2, rfl, by decide⟩
        · cases hq
  · rintro e w' ⟨rfl, S', M', V', L', X', P', h', hk⟩
    exact ⟨rfl, S', M', V', L', X', P', h', pil_below h hk, hk⟩
theorem kn_back2 (h : PilH W B g 2 2 knZ4 S M V L X P) : Calls Try.prog 23 #[.pointer (some ⟨g, 0, none⟩)] W fun e w' => e = .returned (.int .i64 0) ∧ ∃ S' M' V' L' X' P', PilH w' B g 2 2 knZ5 S' M' V' L' X' P' ∧ Below B W w' ∧ KeepB (blkV g [S, M, V, L, X, P]) W w' := by
  obtain ⟨e1, e2, e3, e4, e5, e6, e7⟩ := kn_four
  refine (backC B g 2 2 knZ4 S M V L X P W h (by decide) 0 0 0 0 (-1) e1 (by rw [e2]; rfl) (by decide) (by rw [e2]; rfl) (Nat.zero_le _) (Nat.zero_le _) (Nat.zero_le _) (fun q hq => ?_) (by rw [e4]; decide) (by rw [e6]; decide) (by rw [e6]; decide)).mono ?_
  · rw [e7] at hq; cases hq
  · rintro e w' ⟨rfl, S', M', V', L', X', P', h', hk⟩
    exact ⟨rfl, S', M', V', L', X', P', h', pil_below h hk, hk⟩
theorem kn_cloth (h : PilH W B g 2 2 awZ2 S M V L X P) : Calls Try.prog 15 #[.pointer (some ⟨g, 0, none⟩)] W (RetCl 4 [⟨0, 1, 1, 2⟩, ⟨0, 0, 2, 0⟩, ⟨0, 2, 3, 1⟩] [⟨0, 1, 0, 3⟩] W) := by
  have h1 := clothC B g 2 2 awZ2 S M V L X P W h (by decide) (by rw [kn_xs]; decide) (by have := congrArg List.length kn_ps; rw [List.length_map] at this; rw [this]; decide)
  rw [kn_xs, kn_ps] at h1
  exact h1
theorem kn_line (h : PilH W B g 2 2 knZ4 S M V L X P) : Calls Try.prog 18 #[.pointer (some ⟨g, 0, none⟩)] W (RetO [0, 1, 2, 3] W) := by
  have h1 := lineC B g 2 2 knZ4 S M V L X P W h (by decide) (by rw [kn_four.2.2.2.2.2.1]; decide)
  rw [kn_four.2.2.2.2.2.1] at h1
  exact h1
end
set_option maxRecDepth 100000 in
set_option maxHeartbeats 8000000 in
theorem knownP (w : World) : Calls Try.prog 5 #[] w fun e w' => e = .returned (.bool true) ∧ Below w.heap.size w w' := by
  obtain ⟨l1, l2, l3, l4, l5, l6, l7, l8, l9, l10, l11, l12, l13⟩ := aw_len
  go_enter Try.func5, Try.ntmps5
  go_wp2_with fail
  refine (newC 2 2 _ aw_new).mono ?_
  rintro e w1 ⟨⟨g, S1, M1, V1, L1, X1, P1, rfl, h1⟩, hb1⟩
  have H1 : Hid (PilH w1 w.heap.size g 2 2 awZ0 S1 M1 V1 L1 X1 P1) := h1
  have B1 := Lib.hid hb1
  clear h1 hb1
  go_wp2_with fail
  refine (saveC w.heap.size g 2 2 awZ0 _ _ _ _ _ _ w1 H1.out (by decide) (by decide +kernel) (by decide +kernel) (fun x hx => by cases hx)).mono ?_
  rintro e w2 ⟨A2, n2, c2, rfl, o2, k2, hb2⟩
  obtain rfl : n2 = 13 := by rw [← k2, kn_save.2]
  have H2 := Lib.hid (RowsH.below H1.out hb2)
  have B2 := Lib.hid (bvia B1.out hb2)
  have hc2 := own_caps o2
  have hsl : ∀ W', (Instr.slice 53 (.slice A2 13 c2) none (some (.int .i64 7)) none).run Try.prog W' = .ok (.slice A2 7 c2) W' := fun W' => slice_to 53 1 (by kernel_rfl) (fun W => by kernel_rfl) A2 13 c2 7 (by omega) W'
  have hcv := str_conv (w := w2) (A := A2) (n := 7) (c := c2) (xs := [80, 76, 1, 2, 2, 0, 0]) (fun j x hx => own_rdB o2 j x (by
    rw [kn_save.1, List.getElem?_append_left (lt_of_get hx)]; exact hx)) rfl
  clear hb2 o2 k2 H1 B1 hc2
  go_wp2_with fail
  refine (doC w.heap.size g 2 2 awZ0 _ _ _ _ _ _ awX1 w2 H2.out (by decide) (by omega) (by omega) (by omega) (by omega) (by omega) (by rw [l11]; rfl) aw_one).mono ?_
  rintro e w3 ⟨rfl, ⟨S3, M3, V3, L3, X3, P3, h3, _⟩, hb3⟩
  have H3 : Hid (PilH w3 w.heap.size g 2 2 awZ1 S3 M3 V3 L3 X3 P3) := h3
  have B3 := Lib.hid (B2.out.trans hb3)
  clear h3 hb3 H2 B2 hsl hcv
  go_wp2_with fail
  refine (doC w.heap.size g 2 2 awZ1 _ _ _ _ _ _ awX2 w3 H3.out (by decide) (by omega) (by omega) (by omega) (by omega) (by omega) (by rw [l12]; rfl) aw_two).mono ?_
  rintro e w4 ⟨rfl, ⟨S4, M4, V4, L4, X4, P4, h4, _⟩, hb4⟩
  have H4 : Hid (PilH w4 w.heap.size g 2 2 awZ2 S4 M4 V4 L4 X4 P4) := h4
  have B4 := Lib.hid (B3.out.trans hb4)
  clear h4 hb4 H3 B3
  go_wp2_with fail
  obtain ⟨xq, hxq⟩ : ∃ xq : List Q4, xq = [⟨0, 1, 1, 2⟩, ⟨0, 0, 2, 0⟩, ⟨0, 2, 3, 1⟩] := ⟨_, rfl⟩
  obtain ⟨pq, hpq⟩ : ∃ pq : List Q4, pq = [⟨0, 1, 0, 3⟩] := ⟨_, rfl⟩
  obtain ⟨wa, hwa⟩ : ∃ wa, wa = w4.alloc (.cells #[.int .i64 0, .int .i64 1, .int .i64 1, .int .i64 2, .int .i64 0, .int .i64 0, .int .i64 2, .int .i64 0, .int .i64 0, .int .i64 2, .int .i64 3, .int .i64 1] 47) := ⟨_, rfl⟩
  have HRX : Hid (RdQ wa wa.heap.size (some ⟨w4.heap.size, 0, none⟩) xq) := by
    show RdQ _ _ _ _
    rw [hwa, hxq]
    exact own_rdQ (e := 47) (base := w4.heap.size) (n := 3) (c := 3) (World.ownsRow_lit w4 _ 3 (Nat.le_refl _) (by decide) rfl)
  have za : wa.heap.size = w4.heap.size + 1 := by rw [hwa]; simp
  have BA : Below w4.heap.size w4 wa := by rw [hwa]; exact (Below.refl _ _).alloc (Nat.le_refl _) _
  obtain ⟨wb, hwb⟩ : ∃ wb, wb = wa.alloc (.cells #[.int .i64 0, .int .i64 1, .int .i64 0, .int .i64 3] 56) := ⟨_, rfl⟩
  have HRP : Hid (RdQ wb wb.heap.size (some ⟨w4.heap.size + 1, 0, none⟩) pq) := by
    show RdQ _ _ _ _
    rw [hwb, hpq, ← za]
    exact own_rdQ (e := 56) (base := wa.heap.size) (n := 1) (c := 1) (World.ownsRow_lit wa _ 1 (Nat.le_refl _) (by decide) rfl)
  have BB : Below wa.heap.size wa wb := by rw [hwb]; exact (Below.refl _ _).alloc (Nat.le_refl _) _
  have zb : wb.heap.size = w4.heap.size + 2 := by rw [hwb]; simp [za]
  rewrite [← hwa, ← hwb]
  obtain ⟨w5, hw5⟩ : ∃ w5, w5 = wb.alloc (.cells #[.int .i64 4, .slice (some ⟨w4.heap.size, 0, none⟩) 3 3, .slice (some ⟨w4.heap.size + 1, 0, none⟩) 1 1] 43) := ⟨_, rfl⟩
  have KC : Hid (Has w5 (w4.heap.size + 2) 43 [.int .i64 4, .slice (some ⟨w4.heap.size, 0, none⟩) 3 3, .slice (some ⟨w4.heap.size + 1, 0, none⟩) 1 1]) := by rw [hw5, ← zb]; exact Has.new rfl
  have BC : Below wb.heap.size wb w5 := by rw [hw5]; exact (Below.refl _ _).alloc (Nat.le_refl _) _
  rewrite [← hw5]
  have B45 := Lib.hid (bvia (bvia BA BB) BC)
  have H5 := Lib.hid (RowsH.below H4.out B45.out).drew
  have RX5 := Lib.hid ((HRX.out.up (bvia BB BC)))
  have RP5 := Lib.hid (HRP.out.up BC)
  have B5 := Lib.hid ((bvia B4.out B45.out))
  have KD := Lib.hid KC.out.drew
  have s0 : w5.cell? ⟨w4.heap.size + 2, 0, none⟩ = some (.int .i64 4) := KC.out.cell 0
  have s1 : w5.cell? ⟨w4.heap.size + 2, 1, none⟩ = some (.slice (some ⟨w4.heap.size, 0, none⟩) 3 3) := KC.out.cell 1
  have s2 : w5.cell? ⟨w4.heap.size + 2, 2, none⟩ = some (.slice (some ⟨w4.heap.size + 1, 0, none⟩) 1 1) := KC.out.cell 2
  have sq := KC.out.lt
  have HLT := Lib.hid (fun b (hb : blkV g [S4, M4, V4, L4, X4, P4] b) => pilK_lt H4.out hb)
  clear hwa hwb hw5 BA BB BC za zb H4 B45 KC HRX HRP
  have D0 : Below w5.heap.size w5 w5.drew := ⟨rfl, rfl, rfl, Nat.le_refl _, fun _ _ => rfl⟩
  have CC := Lib.hid (kn_cloth H5.out)
  rw [← hxq, ← hpq] at CC
  have hxl : xq.length = 3 := by rw [hxq]; rfl
  have hpl : pq.length = 1 := by rw [hpq]; rfl
  clear hxq hpq
  go_region_held3 (fun W => W.cell? ⟨w4.heap.size + 2, 0, none⟩ = some (.int .i64 4) ∧ W.cell? ⟨w4.heap.size + 2, 1, none⟩ = some (.slice (some ⟨w4.heap.size, 0, none⟩) 3 3) ∧ W.cell? ⟨w4.heap.size + 2, 2, none⟩ = some (.slice (some ⟨w4.heap.size + 1, 0, none⟩) 1 1)) (first | exact ⟨by assumption, by assumption, by assumption⟩ | go_keep) (first
    | (go_simp; go_at_call 15; refine CC.out.mono ?_; rintro e w6 ⟨CA, cn, cc, DA, dn, dc, rfl, rX, rP, lX, lP, hb6⟩; rw [hxl] at lX; rw [hpl] at lP; subst lX lP; have H6 := RowsH.below H5.out hb6; have RX6 := RX5.out.up (D0.trans hb6); have RP6 := RP5.out.up (D0.trans hb6); have B6 := bvia B5.out (D0.trans hb6); have K6 := KD.out.below hb6 KD.out.lt; have m0 := K6.cell 0; have m1 := K6.cell 1; have m2 := K6.cell 2)
    | (go_simp; go_at_call 21; refine (sameCl 4 CA DA (some ⟨w4.heap.size, 0, none⟩) (some ⟨w4.heap.size + 1, 0, none⟩) 3 cc 1 dc 3 1 xq pq _ (by decide) (by decide) rX RX6 rP RP6 hxl hpl).mono ?_; rintro e w7 ⟨rfl, hb7⟩; have H7 := RowsH.below H6 hb7; have B7 := bvia B6 hb7; have K7 := K6.below hb7 K6.lt; have t0 := K7.cell 0; have t1 := K7.cell 1; have t2 := K7.cell 2)
    | (go_simp; go_at_call 22; refine (kn_pull3 H9).mono ?_; rintro e w10 ⟨rfl, rfl⟩)
    | (go_simp; go_at_call 22; refine (kn_pull2 H8).mono ?_; rintro e w9 ⟨rfl, H9, hb9, hk9⟩; have B9 := B8.trans hb9; have o8 : w8.ownsRow w.heap.size 91 6 P4 knZ3.ps.length (pnsC knZ3.ps) := H8.o 5 _ rfl; have K9 := hk9.has K8 (K8.ne_own o8 (by decide)); have v0 := K9.cell 0; have v1 := K9.cell 1; have v2 := K9.cell 2)
    | (go_simp; go_at_call 22; refine (kn_pull1 H7).mono ?_; rintro e w8 ⟨rfl, H8, hb8, hk8⟩; have B8 := B7.trans hb8; have o7 : w7.ownsRow w.heap.size 91 6 P4 awZ2.ps.length (pnsC awZ2.ps) := H7.o 5 _ rfl; have K8 := hk8.has K7 (K7.ne_own o7 (by decide)); have u0 := K8.cell 0; have u1 := K8.cell 1; have u2 := K8.cell 2)
    | (go_simp; go_at_call 23; refine (kn_back1 H9).mono ?_; rintro e w10 ⟨rfl, S9, M9, V9, L9, X9, P9, H10, hb10, hk10⟩; have B10 := B9.trans hb10; have K10 := hk10.has K9 (fun e => by have := HLT.out _ e; omega); have x0 := K10.cell 0; have x1 := K10.cell 1; have x2 := K10.cell 2; have CL10 := fun (W : World) (hW : Below w10.heap.size w10 W) => kn_line (RowsH.below H10 hW))
    | ((try go_simp); go_at_call 18; refine (CL10 _ (by first | exact Below.refl _ _ | go_grown)).mono ?_; rintro e w11 ⟨A11, n11, c11, rfl, o11, l11', hb11⟩; obtain rfl : 4 = n11 := l11'; have hbb11 : Below w10.heap.size w10 w11 := bvia (by first | exact Below.refl _ _ | go_grown) hb11; have K11 := K10.below hbb11 K10.lt; have y0 := K11.cell 0; have y1 := K11.cell 1; have y2 := K11.cell 2; have CS := fun (b : Nat) (W : World) (r1 : RdI W W.heap.size A11 [0, 1, 2, 3]) (r2 : RdI W W.heap.size (some ⟨b, 0, none⟩) [0, 1, 2, 3]) => sameInts04 A11 (some ⟨b, 0, none⟩) 4 4 c11 4 [0, 1, 2, 3] [0, 1, 2, 3] W (by decide) (by decide) r1 r2 rfl rfl)
    | ((try go_simp); go_at_call 17; have q1 : RdI w11 w11.heap.size A11 [0, 1, 2, 3] := own_rd1 o11; have q2 := Rd1.up (hasI_rd (cs := [0, 1, 2, 3]) (Has.new (w := w10) (arr := #[.int .i64 0, .int .i64 1, .int .i64 2, .int .i64 3]) rfl)) hb11; refine (CS w10.heap.size _ q1 q2).mono ?_; rintro e w12 ⟨rfl, hb12⟩; have hbb12 := bvia hbb11 hb12; have K13 := K10.below hbb12 K10.lt; have z0 := K13.cell 0; have z1 := K13.cell 1; have z2 := K13.cell 2)
    | ((try go_simp); go_at_call 17; have q0 := (Below.refl w11.heap.size w11).alloc (Nat.le_refl _) (.cells #[.int .i64 0, .int .i64 1, .int .i64 2, .int .i64 3] 3); have q1 : RdI (w11.alloc (.cells #[.int .i64 0, .int .i64 1, .int .i64 2, .int .i64 3] 3)) (w11.alloc (.cells #[.int .i64 0, .int .i64 1, .int .i64 2, .int .i64 3] 3)).heap.size A11 [0, 1, 2, 3] := Rd1.up (own_rd1 o11) q0; have q2 := hasI_rd (cs := [0, 1, 2, 3]) (Has.new (w := w11) (arr := #[.int .i64 0, .int .i64 1, .int .i64 2, .int .i64 3]) rfl); refine (CS w11.heap.size _ q1 q2).mono ?_; rintro e w12 ⟨rfl, hb12⟩; have hbb12 := bvia (bvia hbb11 q0) hb12; have K13 := K10.below hbb12 K10.lt; have z0 := K13.cell 0; have z1 := K13.cell 1; have z2 := K13.cell 2)
    | fail)
  all_goals
    have H13 := Lib.hid (RowsH.below H10 hbb12)
    have B13 := Lib.hid (bvia B10 hbb12)
    clear CC RX5 RP5 KD
    go_wp2_with fail
    refine (kn_back2 H13.out).mono ?_
    rintro e w13 ⟨rfl, S13, M13, V13, L13, X13, P13, h13, hb13, _⟩
    have H14 := Lib.hid h13
    have B14 := Lib.hid (B13.out.trans hb13)
    go_wp2_with fail
    refine (backN w.heap.size g 2 2 knZ5 _ _ _ _ _ _ w13 H14.out (by decide) kn_five).mono ?_
    rintro e w14 ⟨rfl, hb14⟩
    have B15 := Lib.hid (bvia B14.out hb14)
    go_wp2_with fail
    refine (awakeP _).mono ?_
    rintro e w15 ⟨rfl, hb15⟩
    go_wp2
    go_ret
    exact ⟨rfl, bvia B15.out hb15⟩
end Go.Proofs.Ytaenafcecfdffaa
