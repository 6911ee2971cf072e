/-
  Contracts of chapter 16: Do of a step that may not be done; Do of any step that may.
-/
import Derived.Test.YtaenafcecfdffaaVB2
import Derived.Test.YtaenafcecfdffaaVB8
import Derived.Lib.AppendStr
import Derived.Laws.BytesArg
import Derived.Laws.BitsAllLaws
namespace Go.Proofs.Ytaenafcecfdffaa
open Go.RowKit
set_option maxRecDepth 100000 in
set_option maxHeartbeats 2000000 in
theorem doErr (B g : Nat) (p s : Int) (z : Pil) (S M V L X P : Value) (kd at_ : Int) (wd : ByteArray) (W : World) (h : PilH W B g p s z S M V L X P) (hp : 0 < p) (hwd : wd.size ≤ 9223372036854775807) (hs1 : z.steps.length < 1000) (hE : pilE p s z ⟨kd, at_, wd⟩ ≠ 0) :
    Calls Try.prog 12 #[.pointer (some ⟨g, 0, none⟩), .agg #[.int .i64 kd, .int .i64 at_, .string wd]] W fun e w' => e = .returned (.int .i64 (pilE p s z ⟨kd, at_, wd⟩)) ∧ PilH w' B g p s z S M V L X P ∧ Below W.heap.size W w' := by
  obtain ⟨SA, sc, rfl⟩ := own_form (show W.ownsRow B 35 3 S z.steps.length (wksCells z.steps) from h.o 0 _ rfl)
  have a3 : W.cell? ⟨g, 3, none⟩ = some (.slice SA z.steps.length sc) := RowsH.cell h 3
  have hgW := h.c.lt
  have s3 : ((z.steps.length : Int) == 1000) = false := by simp; omega
  have h1 := RowsH.below h ((Below.refl W.heap.size W).alloc (Nat.le_refl _) (.cells #[.int .i64 kd, .int .i64 at_, .string wd] 35))
  have CM := Lib.hid (madeC g p (W.alloc (.cells #[.int .i64 kd, .int .i64 at_, .string wd] 35)) hp (RowsH.cell h1 0))
  have CC := Lib.hid (checkC B g p s z _ _ _ _ _ _ kd at_ wd (W.alloc (.cells #[.int .i64 kd, .int .i64 at_, .string wd] 35)) h1 hwd)
  obtain ⟨er, her⟩ : ∃ er, er = pilE p s z ⟨kd, at_, wd⟩ := ⟨_, rfl⟩
  rw [← her] at CC hE ⊢
  clear her
  have e0 : (er != 0) = true := by simpa using hE
  have H1 := Lib.hid h1
  clear h1 h hE
  go_enter Try.func12, Try.ntmps12
  go_wp2_with fail
  refine CM.out.mono ?_
  rintro e w1 ⟨rfl, rfl⟩
  go_wp2_with fail
  refine CC.out.mono ?_
  rintro e w2 ⟨rfl, hb2⟩
  have H2 := Lib.hid (RowsH.below H1.out hb2)
  have B2 := Lib.hid (bvia (show Below W.heap.size W (W.alloc (.cells #[.int .i64 kd, .int .i64 at_, .string wd] 35)) by go_grown) hb2)
  clear H1 hb2 CM CC
  go_wp2
  go_ret
  exact ⟨rfl, H2.out, B2.out⟩
theorem doC (B g : Nat) (p s : Int) (z : Pil) (S M V L X P : Value) (x : Wk) (W : World) (h : PilH W B g p s z S M V L X P) (hwd : x.word.size ≤ 9223372036854775807) (hs1 : z.steps.length < 1000) (hs2 : z.marks.length ≤ 1000) (hs3 : z.works.length ≤ 400) (hs4 : z.xs.length ≤ 500000) (hs5 : z.ps.length ≤ 500000) (hs6 : z.l.length = 2 * p.toNat) (hE : pilE p s z x = 0) :
    Calls Try.prog 12 #[.pointer (some ⟨g, 0, none⟩), .agg #[.int .i64 x.kind, .int .i64 x.at_, .string x.word]] W fun e w' => e = .returned (.int .i64 0) ∧ (∃ S' M' V' L' X' P', PilH w' B g p s (z.step x) S' M' V' L' X' P' ∧ Grown g W [S, M, V, L, X, P] w' [S', M', V', L', X', P']) ∧ Below B W w' := by
  obtain ⟨kd, at_, wd⟩ := x
  have hq := (pilE_zero hE).2.2.1
  by_cases h1 : kd = 1
  · exact doReach B g p s z S M V L X P kd at_ wd W h hwd hs1 hs2 hE h1
  by_cases h3 : kd = 3
  · exact doSew B g p s z S M V L X P kd at_ wd W h hwd hs1 hs2 hs3 hs5 hs6 hE h3
  · have h2 : kd = 2 := by
      have : shapeB kd wd = true := hq
      unfold shapeB at this
      rw [if_neg (by omega)] at this
      simpa using this
    exact doStitch B g p s z S M V L X P kd at_ wd W h hwd hs1 hs2 hs3 hs4 hs5 hs6 hE h2
end Go.Proofs.Ytaenafcecfdffaa
/-
  Contracts of chapter 16: what a pillow shows: Line and Sheet.
-/
namespace Go.Proofs.Ytaenafcecfdffaa
open Go.RowKit
theorem rdW_from {w : World} {B : Nat} {A : Option Addr} {ws : List Wk} (h : RdW w B A ws) (hn : 0 < ws.length) : ∃ b o, A = some ⟨b, o, none⟩ ∧ b < B ∧ ∀ j v, (wksCells ws)[j]? = some v → w.cell? ((⟨b, o, none⟩ : Addr).add j) = some v := by
  obtain ⟨x0, hx0⟩ := get_of_lt hn
  obtain ⟨b, o, rfl, hb, _⟩ := h 0 x0 hx0
  refine ⟨b, o, rfl, hb, fun j v hv => ?_⟩
  have hj := lt_of_get hv
  rw [wksCells_len] at hj
  obtain ⟨x, hx⟩ := get_of_lt (l := ws) (k := j / 3) (by omega)
  obtain ⟨e1, e2, e3⟩ := wksCells_get hx
  obtain ⟨b2, o2, hA, _, c0, c1, c2⟩ := h _ x hx
  injection hA with hA
  injection hA with h1 h2
  subst h1; subst h2
  rw [Addr.add_lit]
  have hm : j % 3 = 0 ∨ j % 3 = 1 ∨ j % 3 = 2 := by omega
  rcases hm with hm | hm | hm
  · have : j = j / 3 * 3 := by omega
    rw [this] at hv ⊢
    rw [e1] at hv; rw [← hv]; exact c0
  · have : j = j / 3 * 3 + 1 := by omega
    rw [this] at hv ⊢
    rw [e2] at hv; rw [← hv]; exact c1
  · have : j = j / 3 * 3 + 2 := by omega
    rw [this] at hv ⊢
    rw [e3] at hv; rw [← hv]; exact c2
set_option maxRecDepth 100000 in
set_option maxHeartbeats 1000000 in
theorem wpList_appW {w : World} {ops : Array Oper} {rest : List Oper} {o : Oper} {a : Act} {Q : Exit → Act → World → Prop} (hgd : o.guard = none) (s x : Operand)
    (ho : o.op = .call { callee := .builtin .append, args := #[s, x], argTypes := #[22, 22] })
    (base : Nat) (v : Value) (n : Nat) (xs : List Wk) (hs : a.eval s = v) (hown : w.ownsRow base 86 3 v n (wksCells xs))
    (A : Option Addr) (m c : Nat) (ws : List Wk) (hx : a.eval x = .slice A m c) (hr : RdW w w.heap.size A ws) (hl : ws.length = m)
    (hn : n + m ≤ 1000000000) (hbase : base ≤ w.heap.size)
    (h : ∀ A' c' w', w'.ownsRow base 86 3 (.slice A' (n + m) c') (n + m) (wksCells (xs ++ ws)) → w.grownBy w' v.ownBlock → wpList Try.prog ops Q rest (a.put o.dst (.slice A' (n + m) c')) w') :
    wpList Try.prog ops Q (o :: rest) a w := by
  have happ : wksCells xs ++ wksCells ws = wksCells (xs ++ ws) := by simp [wksCells]
  refine wpList_plain hgd fun K hK => ?_
  cases A with
  | none =>
    have hw0 : ws = [] := by
      cases ws with
      | nil => rfl
      | cons y ws => obtain ⟨b, o', e, _⟩ := hr 0 y rfl; cases e
    subst hw0
    obtain rfl : 0 = m := hl
    obtain ⟨B, d, rfl⟩ := own_form hown
    obtain ⟨i, hi, hz, hsize, hb⟩ := info_parts infoWk16
    have hcc := own_caps hown
    have hrun := run_app0 (P := Try.prog) w 22 o.type 86 i Try.underlying22 hi B n d c hcc.1
    unfold Oper.wp execOp
    simp only [ho, resolve, invoke, builtin, Sem.run_bind, Sem.run_pure, Result.andThen_ok, List.map_toArray, List.map_cons, List.map_nil, hs, hx, hrun]
    exact hK _ _ (h B d w (by rw [List.append_nil]; exact hown) ⟨rfl, rfl, rfl, Nat.le_refl _, fun _ _ _ => rfl⟩)
  | some ad =>
    refine wp_appN s x 22 ho base 86 (.agg #[.int .i64 0, .int .i64 0, .string ⟨#[]⟩]) 3 32 Try.underlying22 infoWk16 rfl (by omega) (by omega) v n (wksCells xs) hs hown ad m c (wksCells ws) hx (by rw [wksCells_len, hl]) ?_ (one_wks ws) hn hbase ?_
    · cases ws with
      | nil => intro j u hu; simp [wksCells] at hu
      | cons y ws =>
        obtain ⟨b, o', e, hb, hc⟩ := rdW_from hr (by simp)
        injection e with e
        subst e
        exact hc
    · intro v' w' hown' hgrow' _ _
      obtain ⟨A', c', rfl⟩ := own_form hown'
      exact hK _ _ (h A' c' w' (by rw [← happ]; exact hown') hgrow')
theorem own_rdW' {w : World} {base : Nat} {e : TypeId} {n c : Nat} {A : Option Addr} {ws : List Wk} (h : w.ownsRow base e 3 (.slice A n c) n (wksCells ws)) : RdW w w.heap.size A ws := own_rdW h
set_option maxRecDepth 100000 in
theorem cloneW (A : Option Addr) (n c : Nat) (ds : List Wk) (w : World) (hr : RdW w w.heap.size A ds) (hl : ds.length = n) (hn : n ≤ 1000000000) :
    Calls Try.prog 38 #[.slice A n c] w fun e w' => ∃ A n c, e = .returned (.slice A n c) ∧ w'.ownsRow w.heap.size 86 3 (.slice A n c) n (wksCells ds) ∧ ds.length = n ∧ Below w.heap.size w w' := by
  have HR := Lib.hid hr; clear hr
  cases A with
  | none =>
    have h0 : ds = [] := by
      cases ds with
      | nil => rfl
      | cons y ws => obtain ⟨b, o', e, _⟩ := HR.out 0 y rfl; cases e
    subst h0
    have E := fun W => run_eqlnil (P := Try.prog) W 22 86 none n c Try.underlying22
    simp only [Option.isNone_none] at E
    obtain rfl : 0 = n := hl
    go_enter Try.func38, Try.ntmps38
    go_wp2
    go_ret
    exact ⟨none, 0, 0, rfl, World.ownsRow_nil _ _ _ _, rfl, Below.refl _ _⟩
  | some ad =>
    have E := fun W => run_eqlnil (P := Try.prog) W 22 86 (some ad) n c Try.underlying22
    simp only [Option.isNone_some] at E
    go_enter Try.func38, Try.ntmps38
    go_wp2_with (at_builtin; refine wpList_appW rfl (.tmp 5) (.tmp 6) rfl w.heap.size (.slice (some ⟨w.heap.size, 0, none⟩) 0 0) 0 [] rfl (own_lit0 (Nat.le_refl _)) (some ad) n c ds rfl (HR.out.up (by go_grown)) hl (by omega) (by simp) ?_)
    intro A' c' w' hown hgrow
    have hb : Below w.heap.size w w' := ((Below.refl _ w).alloc (Nat.le_refl _) (.cells #[] 86)).grown hgrow (by simp) (fun k hk => by simp [Value.ownBlock] at hk; omega)
    have HO := Lib.hid hown; clear hown
    go_wp2
    go_ret
    exact ⟨A', n, c', by simp, by simpa using HO.out, hl, hb⟩
set_option maxRecDepth 100000 in
theorem lineC (B g : Nat) (p s : Int) (z : Pil) (S M V L X P : Value) (W : World) (h : PilH W B g p s z S M V L X P) (hp : 0 < p) (hn : z.l.length ≤ 1000) :
    Calls Try.prog 18 #[.pointer (some ⟨g, 0, none⟩)] W (RetO z.l W) := by
  have o3 : W.ownsRow B 3 1 L z.l.length (z.l.map vInt) := h.o 3 _ rfl
  obtain ⟨LA, lc, rfl⟩ := own_form o3
  have a6 : W.cell? ⟨g, 6, none⟩ = some (.slice LA z.l.length lc) := RowsH.cell h 6
  have CM := Lib.hid (madeC g p W hp (RowsH.cell h 0))
  have CC := Lib.hid (clone48 LA z.l.length lc z.l W (own_rd1 o3) rfl (by omega))
  have hg := h.c.lt
  clear h o3
  go_enter Try.func18, Try.ntmps18
  go_wp2_with fail
  refine CM.out.mono ?_
  rintro e w1 ⟨rfl, rfl⟩
  go_wp2_with fail
  refine CC.out.mono ?_
  rintro e w2 ⟨A2, n2, c2, rfl, r2, l2, hb2⟩
  have R2 := Lib.hid r2
  clear r2
  go_wp2
  go_ret
  exact ⟨A2, n2, c2, rfl, R2.out, l2, hb2⟩
set_option maxRecDepth 100000 in
set_option maxHeartbeats 2000000 in
theorem sheetC (B g : Nat) (p s : Int) (z : Pil) (S M V L X P : Value) (W : World) (h : PilH W B g p s z S M V L X P) (hp : 0 < p) (hn : z.works.length ≤ 1000) :
    Calls Try.prog 14 #[.pointer (some ⟨g, 0, none⟩)] W fun e w' => ∃ A n c, e = .returned (.agg #[.int .i64 p, .slice A n c]) ∧ RdW w' w'.heap.size A z.works ∧ z.works.length = n ∧ n ≤ 1000 ∧ Below W.heap.size W w' := by
  have o2 : W.ownsRow B 86 3 V z.works.length (wksCells z.works) := h.o 2 _ rfl
  obtain ⟨VA, vc, rfl⟩ := own_form o2
  have RV := Lib.hid (own_rdW o2)
  have h1 := RowsH.below h ((Below.refl W.heap.size W).alloc (Nat.le_refl _) (.cells #[.int .i64 0, .slice none 0 0] 24))
  have a0 : (W.alloc (.cells #[.int .i64 0, .slice none 0 0] 24)).cell? ⟨g, 0, none⟩ = some (.int .i64 p) := RowsH.cell h1 0
  have a5 : (W.alloc (.cells #[.int .i64 0, .slice none 0 0] 24)).cell? ⟨g, 5, none⟩ = some (.slice VA z.works.length vc) := RowsH.cell h1 5
  have CM := Lib.hid (madeC g p _ hp a0)
  have CC := Lib.hid (fun (W' : World) (hb : Below W.heap.size W W') => cloneW VA z.works.length vc z.works W' (RV.out.up hb) rfl (by omega))
  have hg := h.c.lt
  have K1 : Has (W.alloc (.cells #[.int .i64 0, .slice none 0 0] 24)) W.heap.size 24 [.int .i64 0, .slice none 0 0] := Has.new rfl
  have HK1 := Lib.hid K1
  have ngk : g ≠ W.heap.size := by omega
  have ngk2 : W.heap.size ≠ g := by omega
  have HA0 := Lib.hid a0
  have HA5 := Lib.hid a5
  have H1 := Lib.hid h1
  clear h o2 h1 K1
  go_enter Try.func14, Try.ntmps14
  go_wp2_with fail
  refine CM.out.mono ?_
  rintro e w1 ⟨rfl, rfl⟩
  go_wp2
  have BA := Lib.hid (show Below W.heap.size W (W.alloc (.cells #[.int .i64 0, .slice none 0 0] 24)) by go_grown)
  go_region_held3 (fun W' => W'.cell? ⟨g, 0, none⟩ = some (.int .i64 p) ∧ W'.cell? ⟨g, 5, none⟩ = some (.slice VA z.works.length vc)) (first | exact ⟨by assumption, by assumption⟩ | exact ⟨HA0.out, HA5.out⟩ | go_keep) (first
    | (go_simp; go_at_call 38; refine (CC.out _ (below_drewN BA.out _)).mono ?_; rintro e w2 ⟨A2, n2, c2, rfl, r2, l2, hb2⟩; have HH2 := HK1.out.drew.below hb2 HK1.out.lt; have P2 := RowsH.below (RowsH.drew H1.out) hb2; have m0 : w2.cell? ⟨g, 0, none⟩ = some (.int .i64 p) := RowsH.cell P2 0; have m5 : w2.cell? ⟨g, 5, none⟩ = some (.slice VA z.works.length vc) := RowsH.cell P2 5; have k0 := HH2.cell 0; have k1 := HH2.cell 1; have f0 := HH2.free 0; have f1 := HH2.free 1; have qk := HH2.lt)
    | fail)
  go_wp2
  refine post_cell ((HH2.set 0 _).set 1 _) rfl rfl rfl Try.underlying24 (by kernel_rfl) ?_
  refine ⟨A2, n2, c2, rfl, ?_, l2, by omega, ?_⟩
  · exact own_rdW (ownsRow_setCell_below (ownsRow_setCell_below r2 (a := ⟨W.heap.size, 0, none⟩) (by show W.heap.size < (W.alloc (.cells #[.int .i64 0, .slice none 0 0] 24)).heap.size; simp) _) (a := ⟨W.heap.size, 1, none⟩) (by show W.heap.size < (W.alloc (.cells #[.int .i64 0, .slice none 0 0] 24)).heap.size; simp) _)
  · exact (((below_drewN BA.out 1).trans (hb2.mono (by have := BA.out.size; exact this))).setCell (p := ⟨W.heap.size, 0, none⟩) (Nat.le_refl _) _).setCell (p := ⟨W.heap.size, 1, none⟩) (Nat.le_refl _) _
end Go.Proofs.Ytaenafcecfdffaa
/-
  Contract of chapter 16: the pillow's method Pull.
-/
namespace Go.Proofs.Ytaenafcecfdffaa
open Go.RowKit
theorem pnsC_cons (x : Pn) (l : List Pn) : pnsC (x :: l) = pnC x ++ pnsC l := rfl
theorem pnsC_get : ∀ {l : List Pn} {k : Nat} {x : Pn}, l[k]? = some x → (pnsC l)[k * 6 + 4]? = some (.bool x.sew) ∧ (pnsC l)[k * 6 + 5]? = some (.bool x.out)
  | [], k, x, h => by simp at h
  | y :: l, 0, x, h => by
    obtain rfl : y = x := by simpa using h
    exact ⟨rfl, rfl⟩
  | y :: l, k + 1, x, h => by
    obtain ⟨h1, h2⟩ := pnsC_get (l := l) (k := k) (x := x) (by simpa using h)
    have e : (pnC y).length = 6 := rfl
    rw [pnsC_cons, List.getElem?_append_right (by rw [e]; omega), List.getElem?_append_right (by rw [e]; omega), e, show (k + 1) * 6 + 4 - 6 = k * 6 + 4 by omega, show (k + 1) * 6 + 5 - 6 = k * 6 + 5 by omega]
    exact ⟨h1, h2⟩
theorem pnsC_set : ∀ {l : List Pn} {k : Nat} {x : Pn}, l[k]? = some x → (pnsC l).set (k * 6 + 5) (.bool true) = pnsC (l.set k { x with out := true })
  | [], k, x, h => by simp at h
  | y :: l, 0, x, h => by
    obtain rfl : y = x := by simpa using h
    rfl
  | y :: l, k + 1, x, h => by
    have h1 := pnsC_set (l := l) (k := k) (x := x) (by simpa using h)
    have e : (pnC y).length = 6 := rfl
    rw [pnsC_cons, List.set_append_right _ _ (by rw [e]; omega), e, show (k + 1) * 6 + 5 - 6 = k * 6 + 5 by omega, h1, List.set_cons_succ, pnsC_cons]
def Pil.pull (z : Pil) (k : Nat) : Pil := match z.ps[k]? with
  | none => z
  | some x => { z with ps := z.ps.set k { x with out := true } }
theorem rows_pull (z : Pil) (k : Nat) (x : Pn) (hx : z.ps[k]? = some x) (S M V L X P : Value) : pilRows (z.pull k) S M V L X P = (pilRows z S M V L X P).set 5 ⟨91, 6, P, z.ps.length, (pnsC z.ps).set (k * 6 + 5) (.bool true)⟩ := by
  unfold Pil.pull
  rw [hx, pnsC_set hx]
  simp [pilRows]
def pullE (x : Pn) : Int := if x.sew then 9 else if x.out then 8 else 0
def Pil.pulled (z : Pil) (k : Nat) (x : Pn) : Pil := if pullE x = 0 then z.pull k else z
set_option maxRecDepth 100000 in
set_option maxHeartbeats 2000000 in
theorem pullC (B g : Nat) (p s : Int) (z : Pil) (S M V L X P : Value) (k : Nat) (x : Pn) (W : World) (h : PilH W B g p s z S M V L X P) (hp : 0 < p) (hx : z.ps[k]? = some x) :
    Calls Try.prog 22 #[.pointer (some ⟨g, 0, none⟩), .int .i64 (k : Int)] W fun e w' => e = .returned (.int .i64 (pullE x)) ∧ PilH w' B g p s (z.pulled k x) S M V L X P ∧ Below B W w' := by
  have o5 : W.ownsRow B 91 6 P z.ps.length (pnsC z.ps) := h.o 5 _ rfl
  obtain ⟨PA, pc, rfl⟩ := own_form o5
  have hk := lt_of_get hx
  obtain ⟨g1, g2⟩ := pnsC_get hx
  obtain ⟨bp, rfl, hbp, hbp2, y4⟩ := own_at o5 g1
  obtain ⟨bp', e', _, _, y5⟩ := own_at o5 g2
  injection e' with e'
  injection e' with e'
  subst e'
  have a8 : W.cell? ⟨g, 8, none⟩ = some (.slice (some ⟨bp, 0, none⟩) z.ps.length pc) := RowsH.cell h 8
  have CM := Lib.hid (madeC g p W hp (RowsH.cell h 0))
  have hg := h.c.lt
  have fz := o5.frozenAt (k * 6 + 5)
  have H := Lib.hid h
  have HX := Lib.hid hx
  have j1 : (k : Int) < (z.ps.length : Int) := by omega
  have d1 : decide ((k : Int) < 0) = false := decide_eq_false (by omega)
  have d2 : decide ((z.ps.length : Int) ≤ (k : Int)) = false := decide_eq_false (by omega)
  have z4 : 0 + k * 6 + 4 = k * 6 + 4 := by omega
  obtain ⟨q, sw, ot⟩ := x
  simp only [] at y4 y5
  clear h o5 hx g1 g2
  cases sw with
  | true =>
    have HQ : Hid (z.pulled k ⟨q, true, ot⟩ = z) := if_neg (by show ¬ (9 : Int) = 0; decide)
    go_enter Try.func22, Try.ntmps22
    go_wp2_with fail
    refine CM.out.mono ?_
    rintro e w1 ⟨rfl, rfl⟩
    go_wp2
    go_ret
    rw [HQ.out]
    exact ⟨rfl, H.out, Below.refl _ _⟩
  | false =>
    cases ot with
    | true =>
      have HQ : Hid (z.pulled k ⟨q, false, true⟩ = z) := if_neg (by show ¬ (8 : Int) = 0; decide)
      go_enter Try.func22, Try.ntmps22
      go_wp2_with fail
      refine CM.out.mono ?_
      rintro e w1 ⟨rfl, rfl⟩
      go_wp2
      go_ret
      rw [HQ.out]
      exact ⟨rfl, H.out, Below.refl _ _⟩
    | false =>
      go_enter Try.func22, Try.ntmps22
      go_wp2_with fail
      refine CM.out.mono ?_
      rintro e w1 ⟨rfl, rfl⟩
      go_wp2
      go_ret
      refine ⟨rfl, ?_, ?_⟩
      · show RowsH _ _ _ _ _ _
        rw [show z.pulled k ⟨q, false, false⟩ = z.pull k from if_pos rfl, rows_pull z k _ HX.out]
        have h6 := RowsH.stored H.out (i := 5) rfl (b := bp) (cap := pc) rfl (k * 6 + 5) (.bool true)
        have e : (z.pull k).hands = z.hands := by unfold Pil.pull; rw [HX.out]
        rw [e]
        exact h6
      · exact (Below.refl _ _).setCell (p := ⟨bp, k * 6 + 5, none⟩) hbp _
end Go.Proofs.Ytaenafcecfdffaa
/-
  Contract of chapter 16: the pillow's method Standing.
-/
namespace Go.Proofs.Ytaenafcecfdffaa
open Go.RowKit
theorem pnsC_at : ∀ {l : List Pn} {k : Nat} {x : Pn} (_ : l[k]? = some x) (i : Nat) (_ : i < 6), (pnsC l)[k * 6 + i]? = (pnC x)[i]?
  | [], k, x, h, i, hi => by simp at h
  | y :: l, 0, x, h, i, hi => by
    obtain rfl : y = x := by simpa using h
    have e : (pnC y).length = 6 := rfl
    rw [pnsC_cons, Nat.zero_mul, Nat.zero_add, List.getElem?_append_left (by rw [e]; exact hi)]
  | y :: l, k + 1, x, h, i, hi => by
    have h1 := pnsC_at (l := l) (k := k) (x := x) (by simpa using h) i hi
    have e : (pnC y).length = 6 := rfl
    rw [pnsC_cons, List.getElem?_append_right (by rw [e]; omega), e, show (k + 1) * 6 + i - 6 = k * 6 + i by omega]
    exact h1
def standB (x : Pn) : Bool := !x.sew && !x.out
def standL (ps : List Pn) : Nat → List Int
  | 0 => []
  | k + 1 => match ps[k]? with
    | none => standL ps k
    | some x => if standB x then standL ps k ++ [(k : Int)] else standL ps k
theorem standL_succ {ps : List Pn} {k : Nat} {x : Pn} (h : ps[k]? = some x) : standL ps (k + 1) = if standB x then standL ps k ++ [(k : Int)] else standL ps k := by
  show (match ps[k]? with | none => _ | some x => _) = _
  rw [h]
set_option maxRecDepth 100000 in
set_option maxHeartbeats 400000 in
theorem standF (a b c d : Int) (sw ot : Bool) (W : World) : Calls Try.prog 60 #[.agg #[.int .i64 a, .int .i64 b, .int .i64 c, .int .i64 d, .bool sw, .bool ot]] W fun e w' => e = .returned (.bool (!sw && !ot)) ∧ Below W.heap.size W w' := by
  cases sw <;> cases ot
  · go_enter Try.func60, Try.ntmps60
    go_wp2
    go_ret
    exact ⟨rfl, by go_grown⟩
  · go_enter Try.func60, Try.ntmps60
    go_wp2
    go_ret
    exact ⟨rfl, by go_grown⟩
  · go_enter Try.func60, Try.ntmps60
    go_wp2
    go_ret
    exact ⟨rfl, by go_grown⟩
  · go_enter Try.func60, Try.ntmps60
    go_wp2
    go_ret
    exact ⟨rfl, by go_grown⟩
set_option maxRecDepth 100000 in
set_option maxHeartbeats 4000000 in
theorem standC (B g : Nat) (p s : Int) (z : Pil) (S M V L X P : Value) (W : World) (h : PilH W B g p s z S M V L X P) (hp : 0 < p) (hn : z.ps.length ≤ 1000000) :
    Calls Try.prog 28 #[.pointer (some ⟨g, 0, none⟩)] W (RetO (standL z.ps z.ps.length) W) := by
  have o5 : W.ownsRow B 91 6 P z.ps.length (pnsC z.ps) := h.o 5 _ rfl
  obtain ⟨PA, pc, rfl⟩ := own_form o5
  have a8 : W.cell? ⟨g, 8, none⟩ = some (.slice PA z.ps.length pc) := RowsH.cell h 8
  have CM := Lib.hid (madeC g p W hp (RowsH.cell h 0))
  have hg := h.c.lt
  have O5 := Lib.hid o5
  clear h o5
  go_enter Try.func28, Try.ntmps28
  go_wp2_with fail
  refine CM.out.mono ?_
  rintro e w1 ⟨rfl, rfl⟩
  go_wp2
  go_loopw [5, 13] (fun v i wr => ∃ (k m : Nat) (A' : Option Addr) (c' : Nat), k ≤ z.ps.length ∧ m ≤ k ∧ i = .int .i64 (k : Int) ∧ v = .slice A' m c' ∧ Hid (wr.ownsRow W.heap.size 3 1 v m ((standL z.ps k).map vInt)) ∧ Hid ((standL z.ps k).length = m) ∧ Hid (Below W.heap.size W wr)) (fun _ i _ => z.ps.length - (intOf i).toNat)
  case atStart =>
    refine ⟨0, 0, none, 0, Nat.zero_le _, Nat.le_refl _, rfl, rfl, ?_, rfl, ?_⟩
    · exact World.ownsRow_nil _ _ _ _
    · exact Below.refl _ _
  case round =>
    obtain ⟨k, m, A', c', hk, hmk, rfl, rfl, HO, HLm, HB⟩ := hrel
    obtain ⟨wo, rfl⟩ : ∃ wo : World, wo = wr := ⟨_, rfl⟩
    by_cases hlt : k < z.ps.length
    · have jk : (k : Int) < (z.ps.length : Int) := by omega
      obtain ⟨x, hx⟩ := get_of_lt hlt
      have HS := Lib.hid (standL_succ hx)
      have C := fun i hi => pnsC_at hx i hi
      obtain ⟨bp, rfl, hbp, hbp2, c0'⟩ := own_at O5.out (j := k * 6 + 0) (u := .int .i64 x.q.a) (C 0 (by decide))
      have CC : Hid (∀ i u, i < 6 → (pnC x)[i]? = some u → wo.cell? ⟨bp, k * 6 + i, none⟩ = some u) := fun i u hi hu => by
        obtain ⟨bp', e', _, _, c'⟩ := own_at O5.out (j := k * 6 + i) (u := u) ((C i hi).trans hu)
        injection e' with e'
        injection e' with e'
        subst e'
        exact (HB.out.cell (p := ⟨bp, k * 6 + i, none⟩) hbp2).trans c'
      have c0 : wo.cell? ⟨bp, k * 6, none⟩ = some (.int .i64 x.q.a) := CC.out 0 _ (by decide) rfl
      have c1 : wo.cell? ⟨bp, k * 6 + 1, none⟩ = some (.int .i64 x.q.b) := CC.out 1 _ (by decide) rfl
      have c2 : wo.cell? ⟨bp, k * 6 + 2, none⟩ = some (.int .i64 x.q.c) := CC.out 2 _ (by decide) rfl
      have c3 : wo.cell? ⟨bp, k * 6 + 3, none⟩ = some (.int .i64 x.q.d) := CC.out 3 _ (by decide) rfl
      have c4 : wo.cell? ⟨bp, k * 6 + 4, none⟩ = some (.bool x.sew) := CC.out 4 _ (by decide) rfl
      have c5 : wo.cell? ⟨bp, k * 6 + 5, none⟩ = some (.bool x.out) := CC.out 5 _ (by decide) rfl
      clear c0' C hx
      obtain ⟨q, sw, ot⟩ := x
      obtain ⟨xa, xb, xc, xd⟩ := q
      simp only [] at c0 c1 c2 c3 c4 c5
      have CF := Lib.hid (fun W' => standF xa xb xc xd sw ot W')
      have hz := HB.out.size
      go_wp2_with fail
      refine (CF.out _).mono ?_
      rintro e w2 ⟨rfl, hb2⟩
      have O2 := Lib.hid (own_below (HO.out.alloc (.cells #[.int .i64 xa, .int .i64 xb, .int .i64 xc, .int .i64 xd, .bool sw, .bool ot] 91)) hb2)
      have B2 := Lib.hid (bvia (bvia HB.out (show Below wo.heap.size wo (wo.alloc (.cells #[.int .i64 xa, .int .i64 xb, .int .i64 xc, .int .i64 xd, .bool sw, .bool ot] 91)) by go_grown)) hb2)
      have hz2 : W.heap.size ≤ w2.heap.size := B2.out.size
      clear HO HB hb2 CF CC c0 c1 c2 c3 c4 c5
      obtain ⟨b, hb⟩ : ∃ b, b = (!sw && !ot) := ⟨_, rfl⟩
      have HSB : Hid (standB ⟨⟨xa, xb, xc, xd⟩, sw, ot⟩ = b) := hb.symm
      rw [← hb]
      clear hb
      cases b with
      | true =>
        go_wp2_with (at_builtin; refine wpList_app rfl (.tmp 21) (.tmp 23) _ rfl W.heap.size 3 (.int .i64 0) 1 8 Try.underlying39 infoInt rfl (by omega) (by omega) (.slice A' m c') _ _ rfl (O2.out.alloc _) w2.heap.size [vInt (k : Int)] rfl rfl (news_new _ _ _) (one_int _ _) (by omega) (by simp; omega) ?_; intro g1 cap1 w3 hg1 hown1 hgrow1 hor1)
        go_roundw
        case rel =>
          refine ⟨k + 1, m + 1, _, cap1, by omega, by omega, rfl, rfl, ?_, ?_, ?_⟩
          · show World.ownsRow _ _ _ _ _ _ _
            rw [HS.out, if_pos HSB.out, List.map_append]; exact hown1
          · show _ = _
            rw [HS.out, if_pos HSB.out, List.length_append, HLm.out]; rfl
          · show Below _ _ _
            exact (B2.out.alloc hz2 (.cells #[.int .i64 (k : Int)] 3)).grown hgrow1 (by simp; omega) (fun k hk => (O2.out.lt k hk).1)
        case measure => first | (simp [intOf]; done) | (simp [intOf]; omega)
      | false =>
        go_wp2
        go_roundw
        case rel =>
          refine ⟨k + 1, m, A', c', by omega, by omega, rfl, rfl, ?_, ?_, B2⟩
          · show World.ownsRow _ _ _ _ _ _ _
            rw [HS.out, if_neg (by rw [HSB.out]; decide)]; exact O2.out
          · show _ = _
            rw [HS.out, if_neg (by rw [HSB.out]; decide), HLm.out]
        case measure => first | (simp [intOf]; done) | (simp [intOf]; omega)
    · obtain rfl : k = z.ps.length := by omega
      have jk : ¬ (z.ps.length : Int) < (z.ps.length : Int) := by omega
      go_wp2
      go_ret
      exact ⟨A', m, c', rfl, HO.out, HLm.out, HB.out⟩
end Go.Proofs.Ytaenafcecfdffaa
/-
  Words of bytes: rows of bytes, strings made of them, append of several elements at once.
-/
namespace Go.Proofs.Ytaenafcecfdffaa
open Go.RowKit
abbrev vB (b : UInt8) : Value := .int .u8 (b.toNat : Int)
abbrev RdU8 (w : World) (B : Nat) (A : Option Addr) (xs : List UInt8) : Prop := Rd1 vB w B A xs
/-- the byte of a number -/
def bI (x : Int) : UInt8 := UInt8.ofNat (x % 256).toNat
theorem wrap_bI (x : Int) : IntKind.u8.wrap x = ((bI x).toNat : Int) := by
  rw [IntKind.wrap_u8']
  unfold bI
  rw [UInt8.toNat_ofNat']
  omega
theorem strCells_vB (s : ByteArray) : Lib.strCells s = s.data.toList.map vB := rfl
theorem strOf_bytes (xs : List UInt8) : strOfNums (xs.map (fun b => (b.toNat : Int))) = ⟨xs.toArray⟩ := by
  unfold strOfNums
  rw [List.map_map]
  congr 1
  congr 1
  conv => rhs; rw [← List.map_id xs]
  apply List.map_congr_left
  intro b _
  simp
theorem str_conv {w : World} {A : Option Addr} {n c : Nat} {xs : List UInt8} (h : RdU8 w w.heap.size A xs) (hl : xs.length = n) :
    (convert 53 9 (.slice A n c)).run Try.prog w = .ok (.string ⟨xs.toArray⟩) w := by
  cases xs with
  | nil =>
    obtain rfl : 0 = n := hl
    cases A with
    | none => exact run_convert_bytes_nil (P := Try.prog) w 53 5 Try.underlying53 Try.underlying5 0 c 9 Try.underlying9
    | some a =>
      obtain ⟨b, o, s⟩ := a
      have h := run_bytesToString (P := Try.prog) w ⟨b, o, s⟩ 0 c [] (by kernel_rfl)
      rw [run_convert_bytes_string w 53 9 5 _ 0 c Try.underlying53 Try.underlying5 Try.underlying9, h]
      rfl
  | cons x l =>
    obtain ⟨b, o, rfl, _, _⟩ := h 0 x rfl
    have := run_convert_bytes_arg (P := Try.prog) w 53 5 Try.underlying53 Try.underlying5 b o n c ((x :: l).map (fun b => (b.toNat : Int))) (by simpa using hl) (fun i hi => by
      obtain ⟨y, hy⟩ := get_of_lt (l := x :: l) (k := i) (by omega)
      obtain ⟨b', o', e, _, hc⟩ := h i y hy
      injection e with e
      injection e with e1 e2
      subst e1 e2
      rw [hc, List.getD_eq_getElem?_getD, List.getElem?_map, hy]; rfl) 9 Try.underlying9
    rw [this, strOf_bytes]
/-- append of several elements that lie in a row of their own -/
theorem wpList_appM {P : Program} {w : World} {ops : Array Oper} {rest : List Oper} {o : Oper} {a : Act} {Q : Exit → Act → World → Prop} (hgd : o.guard = none) (s x : Operand) (t : TypeId)
    (ho : o.op = .call { callee := .builtin .append, args := #[s, x], argTypes := #[t, t] })
    (base : Nat) (e : TypeId) (z : Value) (size bytes : Nat) (ht : P.underlying t = some (.slice e)) (hinf : (P.info? e).map (fun i => (i.zero, i.size, i.bytes)) = some (some z, size, bytes))
    (hzs : z.cells.size = size) (hsz : 0 < size) (hby : bytes ≤ 100)
    (v : Value) (n : Nat) (xs : List Value) (hs : a.eval s = v) (hown : w.ownsRow base e size v n xs)
    (m b c : Nat) (hm : 0 < m) (news : List Value) (hx : a.eval x = .slice (some ⟨b, 0, none⟩) m c) (hl : news.length = m * size) (hnews : ∀ j u, news[j]? = some u → w.cell? ⟨b, j, none⟩ = some u) (h1 : ∀ u ∈ news, u.oneCell' = true)
    (hn : n + m ≤ 1000000000) (hbase : base ≤ w.heap.size)
    (h : ∀ g cap w', base ≤ g → w'.ownsRow base e size (.slice (some ⟨g, 0, none⟩) (n + m) cap) (n + m) (xs ++ news) → w.grownBy w' v.ownBlock → (some g = v.ownBlock ∨ g = w.heap.size) →
      wpList P ops Q rest (a.put o.dst (.slice (some ⟨g, 0, none⟩) (n + m) cap)) w') : wpList P ops Q (o :: rest) a w := by
  obtain ⟨i, hi, hz, hsize, hb⟩ := info_parts hinf
  refine wpList_plain hgd fun K hK => ?_
  have hmul : (n + m) * bytes ≤ 140737488355328 := by
    have : (n + m) * bytes ≤ 1000000001 * 100 := Nat.mul_le_mul (by omega) hby
    omega
  obtain ⟨v', w', hrun, h2, h3, h4, h5⟩ := run_append_own_at (P := P) w base t o.type e i z size bytes ht hi hz hsize hb hzs hsz v n xs hown ⟨b, 0, none⟩ m c news hl (fun j u hu => by
    have := hnews j u hu
    have hadd : (⟨b, 0, none⟩ : Addr).add j = ⟨b, j, none⟩ := by unfold Addr.add; split <;> simp_all
    rw [hadd]; exact this) h1 (by simp only [maxLen]; omega) hmul hbase
  have hnn : v' ≠ .slice none 0 0 := fun e => by have := h4.1 e; omega
  rcases h2.2 with ⟨rfl, _⟩ | ⟨g, cap, cur, rfl, hg, _⟩
  · exact absurd rfl hnn
  · unfold Oper.wp execOp
    simp only [ho, resolve, invoke, builtin, Sem.run_bind, Sem.run_pure, Result.andThen_ok, List.map_toArray, List.map_cons, List.map_nil, hs, hx, hrun]
    refine hK _ _ (h g cap w' hg h2 h3 ?_)
    rcases h5 with h5 | h5
    · left; rw [← h5]; rfl
    · right; simpa [Value.ownBlock] using h5
theorem news_lit (w : World) (xs : List Value) (t : TypeId) : ∀ j u, xs[j]? = some u → (w.alloc (.cells xs.toArray t)).cell? ⟨w.heap.size, j, none⟩ = some u := fun j _ hu =>
  ((Has.new (w := w) (t := t) (cs := xs) rfl).cell j).trans hu
theorem news_at (w : World) (xs : List Value) (t : TypeId) {b : Nat} (hb : b = w.heap.size) : ∀ j u, xs[j]? = some u → (w.alloc (.cells xs.toArray t)).cell? ⟨b, j, none⟩ = some u := by
  subst hb; exact news_lit w xs t
theorem infoB : (Try.prog.info? 5).map (fun i => (i.zero, i.size, i.bytes)) = some (some (.int .u8 0), 1, 1) := by kernel_rfl
/-- append of a string's bytes -/
theorem wpList_appS {w : World} {ops : Array Oper} {rest : List Oper} {o : Oper} {a : Act} {Q : Exit → Act → World → Prop} (hgd : o.guard = none) (s x : Operand)
    (ho : o.op = .call { callee := .builtin .append, args := #[s, x], argTypes := #[53, 9] })
    (base : Nat) (v : Value) (n : Nat) (xs : List UInt8) (hs : a.eval s = v) (hown : w.ownsRow base 5 1 v n (xs.map vB)) (st : ByteArray) (hx : a.eval x = .string st)
    (hn : n + st.size ≤ 1000000000) (hbase : base ≤ w.heap.size)
    (h : ∀ A' c' w', w'.ownsRow base 5 1 (.slice A' (n + st.size) c') (n + st.size) ((xs ++ st.data.toList).map vB) → w.grownBy w' v.ownBlock → wpList Try.prog ops Q rest (a.put o.dst (.slice A' (n + st.size) c')) w') :
    wpList Try.prog ops Q (o :: rest) a w := by
  obtain ⟨i, hi, hz, hsize, hb⟩ := info_parts infoB
  refine Lib.wpList_append_own_string (P := Try.prog) w hgd s x 53 9 ho base 5 i Try.underlying53 Try.underlying9 hi hz hsize hb v n (xs.map vB) hs hown st hx (by simp only [maxLen]; omega) (by omega) hbase (fun v' w' h1 h2 _ => ?_)
  obtain ⟨A', c', rfl⟩ := own_form h1
  exact h A' c' w' (by rw [List.map_append]; exact h1) h2
theorem one_bytes (xs : List UInt8) : ∀ u ∈ xs.map vB, u.oneCell' = true := fun u hu => by
  simp at hu; obtain ⟨b, _, rfl⟩ := hu; rfl
theorem own_rdB {w : World} {base n c : Nat} {A : Option Addr} {xs : List UInt8} (h : w.ownsRow base 5 1 (.slice A n c) n (xs.map vB)) : RdU8 w w.heap.size A xs := own_rd1 h
end Go.Proofs.Ytaenafcecfdffaa
/-
  Contracts of chapter 16: the pillow's sum and put.
-/
namespace Go.Proofs.Ytaenafcecfdffaa
open Go.RowKit
def sumStep (h : Int) (x : UInt8) : Int := bits BinOp.xor IntKind.u32 h ((x.toNat : Int) % 4294967296) * 16777619 % 4294967296
def sumB (xs : List UInt8) : Int := xs.foldl sumStep 2166136261
theorem sumB_succ {xs : List UInt8} {k : Nat} {x : UInt8} (h : xs[k]? = some x) : sumB (xs.take (k + 1)) = sumStep (sumB (xs.take k)) x := by
  unfold sumB
  rw [List.take_add_one, h]
  show (xs.take k ++ [x]).foldl _ _ = _
  rw [List.foldl_append]; rfl
set_option maxRecDepth 100000 in
theorem sumC (A : Option Addr) (n c : Nat) (xs : List UInt8) (w : World) (hr : RdU8 w w.heap.size A xs) (hl : xs.length = n) (hn : n ≤ 1000000000) :
    Calls Try.prog 48 #[.slice A n c] w fun e w' => e = .returned (.int .u32 (sumB xs)) ∧ w = w' := by
  have HR := Lib.hid hr
  have HL := Lib.hid hl
  clear hr hl
  go_enter Try.func48, Try.ntmps48
  go_wp2
  go_loopw [3, 8] (fun h i wr => ∃ k : Nat, k ≤ n ∧ i = .int .i64 (k : Int) ∧ h = .int .u32 (sumB (xs.take k)) ∧ w = wr) (fun _ i _ => n - (intOf i).toNat)
  case atStart => exact ⟨0, Nat.zero_le _, rfl, rfl, rfl⟩
  case round =>
    obtain ⟨k, hk, rfl, rfl, rfl⟩ := hrel
    by_cases hlt : k < n
    · have jk : (k : Int) < (n : Int) := by omega
      obtain ⟨x, hx⟩ := get_of_lt (l := xs) (k := k) (by rw [HL.out]; exact hlt)
      obtain ⟨b, o, rfl, hb, c0⟩ := HR.out k x hx
      have HS := Lib.hid (sumB_succ hx)
      clear hx
      go_wp2
      go_roundw
      case rel => exact ⟨k + 1, by omega, by go_num, by rw [HS.out]; rfl, trivial⟩
      case measure => first | (simp [intOf]; done) | (simp [intOf]; omega)
    · obtain rfl : k = n := by omega
      have jk : ¬ (k : Int) < (k : Int) := by omega
      go_wp2
      go_ret
      exact ⟨by rw [List.take_of_length_le (by rw [HL.out]; exact Nat.le_refl _)]; rfl, rfl⟩
theorem keep_grown {S : Nat → Prop} {w wo w5 : World} {o : Obj} {row : Option Nat} (h : KeepB S w wo) (g : (wo.alloc o).grownBy w5 row) (hr : ∀ r, row = some r → S r ∨ w.heap.size ≤ r) : KeepB S w w5 := by
  have ha : KeepB S w (wo.alloc o) := h.trans (KeepB.of_below ((Below.refl _ wo).alloc (Nat.le_refl _) o))
  refine ⟨g.os.trans ha.os, g.tape.trans ha.tape, g.output.trans ha.output, Nat.le_trans ha.size g.size, fun r hr' hn => ?_⟩
  refine (g.block r (Nat.lt_of_lt_of_le hr' ha.size) (fun e => ?_)).trans (ha.block r hr' hn)
  rcases hr r e.symm with e2 | e2
  · exact hn e2
  · omega
/-- a number in k bytes, the highest one first -/
def putL (m : Int) : Nat → List UInt8
  | 0 => []
  | k + 1 => bI (m / 256 ^ k) :: putL m k
theorem putL_len (m : Int) : ∀ k, (putL m k).length = k
  | 0 => rfl
  | k + 1 => by rw [putL, List.length_cons, putL_len m k]
set_option maxRecDepth 100000 in
set_option maxHeartbeats 4000000 in
theorem put2C (B : Nat) (v : Value) (xs : List UInt8) (n : Nat) (m : Int) (w : World) (hO : w.ownsRow B 5 1 v n (xs.map vB)) (hB : B ≤ w.heap.size) (hn : n ≤ 100000000) :
    Calls Try.prog 45 #[v, .int .u32 m, .int .i64 2] w fun e w' => ∃ A' c', e = .returned (.slice A' (n + 2) c') ∧ w'.ownsRow B 5 1 (.slice A' (n + 2) c') (n + 2) ((xs ++ putL m 2).map vB) ∧ Below B w w' ∧ KeepB (fun r => v.ownBlock = some r) w w' := by
  obtain ⟨A, c, rfl⟩ := own_form hO
  have HO := Lib.hid hO
  have HBB := Lib.hid (fun w' (k : KeepB (fun r => (Value.slice A n c).ownBlock = some r) w w') => KeepB.below k (fun r hr => (hO.lt r hr).1) hB)
  clear hO
  go_enter Try.func45, Try.ntmps45
  go_wp2
  go_loopw [0, 7] (fun v i wr => ∃ (k : Nat) (A' : Option Addr) (c' : Nat), k ≤ 2 ∧ i = .int .i64 (([1, 0, -1] : List Int).getD k 0) ∧ v = .slice A' (n + k) c' ∧ Hid (wr.ownsRow B 5 1 v (n + k) ((xs ++ (putL m 2).take k).map vB)) ∧ Hid (KeepB (fun r => (Value.slice A n c).ownBlock = some r) w wr ∧ ∀ r, v.ownBlock = some r → (Value.slice A n c).ownBlock = some r ∨ w.heap.size ≤ r)) (fun _ i _ => ((intOf i) + 1).toNat)
  case atStart =>
    refine ⟨0, A, c, by omega, rfl, rfl, ?_, Lib.hid ⟨KeepB.refl _ _, fun r hr => .inl hr⟩⟩
    show World.ownsRow _ _ _ _ _ _ _
    rw [List.take_zero, List.append_nil]
    exact HO.out
  case round =>
    clear HO
    obtain ⟨k, A', c', hk, hi, rfl, HO, HB⟩ := hrel
    obtain ⟨wo, rfl⟩ : ∃ wo : World, wo = wr := ⟨_, rfl⟩
    have hz := HB.out.1.size
    have hzo : B ≤ wo.heap.size := Nat.le_trans hB hz
    rcases (by omega : k = 0 ∨ k = 1 ∨ k = 2) with rfl | rfl | rfl
    · obtain rfl := hi.trans (show _ = Value.int .i64 1 from rfl)
      have hb : ∀ x : Int, ((x % 256 : Int)) = ((bI x).toNat : Int) := fun x => by rw [← wrap_bI, IntKind.wrap_u8']
      have HBY : Hid (bI (m / 256 ^ 1) = bI (m / 256)) := by show _ = _; first | rfl | (congr 1; omega)
      go_wp2_with (at_builtin; refine wpList_app rfl (.tmp 14) (.tmp 20) _ rfl B 5 (.int .u8 0) 1 1 Try.underlying53 infoB rfl (by omega) (by omega) (.slice A' (n + 0) c') _ _ rfl (HO.out.alloc _) wo.heap.size [vB (bI (m / 256))] rfl rfl (by first | exact news_new _ _ _ | (rw [← hb]; exact news_new _ _ _)) (one_bytes [bI (m / 256)]) (by omega) (by simp; omega) ?_; intro g1 cap1 w5 hg1 hown1 hgrow1 hor1)
      go_roundw
      case rel =>
        refine ⟨1, _, cap1, by omega, rfl, rfl, ?_, ?_⟩
        · show World.ownsRow _ _ _ _ _ _ _
          have e9 : (putL m 2).take 1 = (putL m 2).take 0 ++ [bI (m / 256)] := by rw [← HBY.out]; rfl
          rw [e9, ← List.append_assoc, List.map_append]
          exact hown1
        · refine ⟨keep_grown HB.out.1 hgrow1 HB.out.2, fun r hr => ?_⟩
          obtain rfl : g1 = r := by injection hr
          rcases hor1 with e | e
          · exact HB.out.2 g1 e.symm
          · simp at e; exact .inr (by omega)
      case measure => first | (simp [intOf]; done) | (simp [intOf]; omega)
    · obtain rfl := hi.trans (show _ = Value.int .i64 0 from rfl)
      have hb : ∀ x : Int, ((x % 256 : Int)) = ((bI x).toNat : Int) := fun x => by rw [← wrap_bI, IntKind.wrap_u8']
      have HBY : Hid (bI (m / 256 ^ 0) = bI m) := by show _ = _; first | rfl | (congr 1; omega)
      go_wp2_with (at_builtin; refine wpList_app rfl (.tmp 14) (.tmp 20) _ rfl B 5 (.int .u8 0) 1 1 Try.underlying53 infoB rfl (by omega) (by omega) (.slice A' (n + 1) c') _ _ rfl (HO.out.alloc _) wo.heap.size [vB (bI m)] rfl rfl (by first | exact news_new _ _ _ | (rw [← hb]; exact news_new _ _ _)) (one_bytes [bI m]) (by omega) (by simp; omega) ?_; intro g1 cap1 w5 hg1 hown1 hgrow1 hor1)
      go_roundw
      case rel =>
        refine ⟨2, _, cap1, by omega, rfl, rfl, ?_, ?_⟩
        · show World.ownsRow _ _ _ _ _ _ _
          have e9 : (putL m 2).take 2 = (putL m 2).take 1 ++ [bI m] := by rw [← HBY.out]; rfl
          rw [e9, ← List.append_assoc, List.map_append]
          exact hown1
        · refine ⟨keep_grown HB.out.1 hgrow1 HB.out.2, fun r hr => ?_⟩
          obtain rfl : g1 = r := by injection hr
          rcases hor1 with e | e
          · exact HB.out.2 g1 e.symm
          · simp at e; exact .inr (by omega)
      case measure => first | (simp [intOf]; done) | (simp [intOf]; omega)
    · obtain rfl := hi.trans (show _ = Value.int .i64 (-1) from rfl)
      go_wp2
      go_ret
      refine ⟨A', c', rfl, ?_, HBB.out _ HB.out.1, HB.out.1⟩
      have h := HO.out
      rw [List.take_of_length_le (by rw [putL_len]; exact Nat.le_refl _)] at h
      exact h
set_option maxRecDepth 100000 in
set_option maxHeartbeats 4000000 in
theorem put4C (B : Nat) (v : Value) (xs : List UInt8) (n : Nat) (m : Int) (w : World) (hO : w.ownsRow B 5 1 v n (xs.map vB)) (hB : B ≤ w.heap.size) (hm : 0 ≤ m ∧ m < 4294967296) (hn : n ≤ 100000000) :
    Calls Try.prog 45 #[v, .int .u32 m, .int .i64 4] w fun e w' => ∃ A' c', e = .returned (.slice A' (n + 4) c') ∧ w'.ownsRow B 5 1 (.slice A' (n + 4) c') (n + 4) ((xs ++ putL m 4).map vB) ∧ Below B w w' ∧ KeepB (fun r => v.ownBlock = some r) w w' := by
  obtain ⟨A, c, rfl⟩ := own_form hO
  have HO := Lib.hid hO
  have HBB := Lib.hid (fun w' (k : KeepB (fun r => (Value.slice A n c).ownBlock = some r) w w') => KeepB.below k (fun r hr => (hO.lt r hr).1) hB)
  clear hO
  go_enter Try.func45, Try.ntmps45
  go_wp2
  go_loopw [0, 7] (fun v i wr => ∃ (k : Nat) (A' : Option Addr) (c' : Nat), k ≤ 4 ∧ i = .int .i64 (([3, 2, 1, 0, -1] : List Int).getD k 0) ∧ v = .slice A' (n + k) c' ∧ Hid (wr.ownsRow B 5 1 v (n + k) ((xs ++ (putL m 4).take k).map vB)) ∧ Hid (KeepB (fun r => (Value.slice A n c).ownBlock = some r) w wr ∧ ∀ r, v.ownBlock = some r → (Value.slice A n c).ownBlock = some r ∨ w.heap.size ≤ r)) (fun _ i _ => ((intOf i) + 1).toNat)
  case atStart =>
    refine ⟨0, A, c, by omega, rfl, rfl, ?_, Lib.hid ⟨KeepB.refl _ _, fun r hr => .inl hr⟩⟩
    show World.ownsRow _ _ _ _ _ _ _
    rw [List.take_zero, List.append_nil]
    exact HO.out
  case round =>
    clear HO
    obtain ⟨k, A', c', hk, hi, rfl, HO, HB⟩ := hrel
    obtain ⟨wo, rfl⟩ : ∃ wo : World, wo = wr := ⟨_, rfl⟩
    have hz := HB.out.1.size
    have hzo : B ≤ wo.heap.size := Nat.le_trans hB hz
    rcases (by omega : k = 0 ∨ k = 1 ∨ k = 2 ∨ k = 3 ∨ k = 4) with rfl | rfl | rfl | rfl | rfl
    · obtain rfl := hi.trans (show _ = Value.int .i64 3 from rfl)
      have hb : ∀ x : Int, ((x % 256 : Int)) = ((bI x).toNat : Int) := fun x => by rw [← wrap_bI, IntKind.wrap_u8']
      have HBY : Hid (Value.int .u8 (m / 16777216) = vB (bI (m / 256 ^ 3))) := by
        show Value.int _ _ = Value.int _ _
        rw [← hb]
        congr 1
        omega
      go_wp2_with (at_builtin; refine wpList_app rfl (.tmp 14) (.tmp 20) _ rfl B 5 (.int .u8 0) 1 1 Try.underlying53 infoB rfl (by omega) (by omega) (.slice A' (n + 0) c') _ _ rfl (HO.out.alloc _) wo.heap.size [.int .u8 (m / 16777216)] rfl rfl (news_new _ _ _) (one_int _ _) (by omega) (by simp; omega) ?_; intro g1 cap1 w5 hg1 hown1 hgrow1 hor1)
      go_roundw
      case rel =>
        refine ⟨1, _, cap1, by omega, rfl, rfl, ?_, ?_⟩
        · show World.ownsRow _ _ _ _ _ _ _
          rw [HBY.out] at hown1
          have e9 : (putL m 4).take 1 = (putL m 4).take 0 ++ [bI (m / 256 ^ 3)] := rfl
          rw [e9, ← List.append_assoc, List.map_append]
          exact hown1
        · refine ⟨keep_grown HB.out.1 hgrow1 HB.out.2, fun r hr => ?_⟩
          obtain rfl : g1 = r := by injection hr
          rcases hor1 with e | e
          · exact HB.out.2 g1 e.symm
          · simp at e; exact .inr (by omega)
      case measure => first | (simp [intOf]; done) | (simp [intOf]; omega)
    · obtain rfl := hi.trans (show _ = Value.int .i64 2 from rfl)
      have hb : ∀ x : Int, ((x % 256 : Int)) = ((bI x).toNat : Int) := fun x => by rw [← wrap_bI, IntKind.wrap_u8']
      have HBY : Hid (bI (m / 256 ^ 2) = bI (m / 65536)) := by show _ = _; first | rfl | (congr 1; omega)
      go_wp2_with (at_builtin; refine wpList_app rfl (.tmp 14) (.tmp 20) _ rfl B 5 (.int .u8 0) 1 1 Try.underlying53 infoB rfl (by omega) (by omega) (.slice A' (n + 1) c') _ _ rfl (HO.out.alloc _) wo.heap.size [vB (bI (m / 65536))] rfl rfl (by first | exact news_new _ _ _ | (rw [← hb]; exact news_new _ _ _)) (one_bytes [bI (m / 65536)]) (by omega) (by simp; omega) ?_; intro g1 cap1 w5 hg1 hown1 hgrow1 hor1)
      go_roundw
      case rel =>
        refine ⟨2, _, cap1, by omega, rfl, rfl, ?_, ?_⟩
        · show World.ownsRow _ _ _ _ _ _ _
          have e9 : (putL m 4).take 2 = (putL m 4).take 1 ++ [bI (m / 65536)] := by rw [← HBY.out]; rfl
          rw [e9, ← List.append_assoc, List.map_append]
          exact hown1
        · refine ⟨keep_grown HB.out.1 hgrow1 HB.out.2, fun r hr => ?_⟩
          obtain rfl : g1 = r := by injection hr
          rcases hor1 with e | e
          · exact HB.out.2 g1 e.symm
          · simp at e; exact .inr (by omega)
      case measure => first | (simp [intOf]; done) | (simp [intOf]; omega)
    · obtain rfl := hi.trans (show _ = Value.int .i64 1 from rfl)
      have hb : ∀ x : Int, ((x % 256 : Int)) = ((bI x).toNat : Int) := fun x => by rw [← wrap_bI, IntKind.wrap_u8']
      have HBY : Hid (bI (m / 256 ^ 1) = bI (m / 256)) := by show _ = _; first | rfl | (congr 1; omega)
      go_wp2_with (at_builtin; refine wpList_app rfl (.tmp 14) (.tmp 20) _ rfl B 5 (.int .u8 0) 1 1 Try.underlying53 infoB rfl (by omega) (by omega) (.slice A' (n + 2) c') _ _ rfl (HO.out.alloc _) wo.heap.size [vB (bI (m / 256))] rfl rfl (by first | exact news_new _ _ _ | (rw [← hb]; exact news_new _ _ _)) (one_bytes [bI (m / 256)]) (by omega) (by simp; omega) ?_; intro g1 cap1 w5 hg1 hown1 hgrow1 hor1)
      go_roundw
      case rel =>
        refine ⟨3, _, cap1, by omega, rfl, rfl, ?_, ?_⟩
        · show World.ownsRow _ _ _ _ _ _ _
          have e9 : (putL m 4).take 3 = (putL m 4).take 2 ++ [bI (m / 256)] := by rw [← HBY.out]; rfl
          rw [e9, ← List.append_assoc, List.map_append]
          exact hown1
        · refine ⟨keep_grown HB.out.1 hgrow1 HB.out.2, fun r hr => ?_⟩
          obtain rfl : g1 = r := by injection hr
          rcases hor1 with e | e
          · exact HB.out.2 g1 e.symm
          · simp at e; exact .inr (by omega)
      case measure => first | (simp [intOf]; done) | (simp [intOf]; omega)
    · obtain rfl := hi.trans (show _ = Value.int .i64 0 from rfl)
      have hb : ∀ x : Int, ((x % 256 : Int)) = ((bI x).toNat : Int) := fun x => by rw [← wrap_bI, IntKind.wrap_u8']
      have HBY : Hid (bI (m / 256 ^ 0) = bI m) := by show _ = _; first | rfl | (congr 1; omega)
      go_wp2_with (at_builtin; refine wpList_app rfl (.tmp 14) (.tmp 20) _ rfl B 5 (.int .u8 0) 1 1 Try.underlying53 infoB rfl (by omega) (by omega) (.slice A' (n + 3) c') _ _ rfl (HO.out.alloc _) wo.heap.size [vB (bI m)] rfl rfl (by first | exact news_new _ _ _ | (rw [← hb]; exact news_new _ _ _)) (one_bytes [bI m]) (by omega) (by simp; omega) ?_; intro g1 cap1 w5 hg1 hown1 hgrow1 hor1)
      go_roundw
      case rel =>
        refine ⟨4, _, cap1, by omega, rfl, rfl, ?_, ?_⟩
        · show World.ownsRow _ _ _ _ _ _ _
          have e9 : (putL m 4).take 4 = (putL m 4).take 3 ++ [bI m] := by rw [← HBY.out]; rfl
          rw [e9, ← List.append_assoc, List.map_append]
          exact hown1
        · refine ⟨keep_grown HB.out.1 hgrow1 HB.out.2, fun r hr => ?_⟩
          obtain rfl : g1 = r := by injection hr
          rcases hor1 with e | e
          · exact HB.out.2 g1 e.symm
          · simp at e; exact .inr (by omega)
      case measure => first | (simp [intOf]; done) | (simp [intOf]; omega)
    · obtain rfl := hi.trans (show _ = Value.int .i64 (-1) from rfl)
      go_wp2
      go_ret
      refine ⟨A', c', rfl, ?_, HBB.out _ HB.out.1, HB.out.1⟩
      have h := HO.out
      rw [List.take_of_length_le (by rw [putL_len]; exact Nat.le_refl _)] at h
      exact h
end Go.Proofs.Ytaenafcecfdffaa
/-
  Contract of chapter 16: the pillow's method Save.
-/
namespace Go.Proofs.Ytaenafcecfdffaa
open Go.RowKit
def outL (ps : List Pn) : Nat → List Int
  | 0 => []
  | k + 1 => match ps[k]? with
    | none => outL ps k
    | some x => if x.out then outL ps k ++ [(k : Int)] else outL ps k
theorem outL_succ {ps : List Pn} {k : Nat} {x : Pn} (h : ps[k]? = some x) : outL ps (k + 1) = if x.out then outL ps k ++ [(k : Int)] else outL ps k := by
  show (match ps[k]? with | none => _ | some x => _) = _
  rw [h]
theorem outL_bnd (ps : List Pn) : ∀ k, ∀ x ∈ outL ps k, 0 ≤ x ∧ x < (k : Int)
  | 0, x, hx => by cases hx
  | k + 1, x, hx => by
    have ih := outL_bnd ps k
    cases h : ps[k]? with
    | none =>
      have e : outL ps (k + 1) = outL ps k := by show (match ps[k]? with | none => _ | some x => _) = _; rw [h]
      rw [e] at hx
      have := ih x hx
      omega
    | some y =>
      rw [outL_succ h] at hx
      split at hx
      · rcases List.mem_append.1 hx with hx | hx
        · have := ih x hx
          omega
        · obtain rfl := List.mem_singleton.1 hx
          omega
      · have := ih x hx
        omega
theorem outL_len (ps : List Pn) : ∀ k, (outL ps k).length ≤ k
  | 0 => Nat.le_refl _
  | k + 1 => by
    have ih := outL_len ps k
    cases h : ps[k]? with
    | none =>
      have e : outL ps (k + 1) = outL ps k := by show (match ps[k]? with | none => _ | some x => _) = _; rw [h]
      rw [e]; omega
    | some y =>
      rw [outL_succ h]
      split
      · rw [List.length_append, List.length_singleton]; omega
      · omega
set_option maxRecDepth 100000 in
set_option maxHeartbeats 400000 in
theorem outF (a b c d : Int) (sw ot : Bool) (W : World) : Calls Try.prog 47 #[.agg #[.int .i64 a, .int .i64 b, .int .i64 c, .int .i64 d, .bool sw, .bool ot]] W fun e w' => e = .returned (.bool ot) ∧ Below W.heap.size W w' := by
  go_enter Try.func47, Try.ntmps47
  go_wp2
  go_ret
  exact ⟨rfl, by go_grown⟩
set_option maxRecDepth 100000 in
set_option maxHeartbeats 4000000 in
theorem outC (B g : Nat) (p s : Int) (z : Pil) (S M V L X P : Value) (W : World) (h : PilH W B g p s z S M V L X P) (hn : z.ps.length ≤ 1000000) :
    Calls Try.prog 46 #[.pointer (some ⟨g, 0, none⟩), .func (.func 47) #[] #[]] W (RetO (outL z.ps z.ps.length) W) := by
  have o5 : W.ownsRow B 91 6 P z.ps.length (pnsC z.ps) := h.o 5 _ rfl
  obtain ⟨PA, pc, rfl⟩ := own_form o5
  have a8 : W.cell? ⟨g, 8, none⟩ = some (.slice PA z.ps.length pc) := RowsH.cell h 8
  have hg := h.c.lt
  have O5 := Lib.hid o5
  clear h o5
  go_enter Try.func46, Try.ntmps46
  go_wp2
  go_loopw [5, 13] (fun v i wr => ∃ (k m : Nat) (A' : Option Addr) (c' : Nat), k ≤ z.ps.length ∧ m ≤ k ∧ i = .int .i64 (k : Int) ∧ v = .slice A' m c' ∧ Hid (wr.ownsRow W.heap.size 3 1 v m ((outL z.ps k).map vInt)) ∧ Hid ((outL z.ps k).length = m) ∧ Hid (Below W.heap.size W wr)) (fun _ i _ => z.ps.length - (intOf i).toNat)
  case atStart =>
    refine ⟨0, 0, none, 0, Nat.zero_le _, Nat.le_refl _, rfl, rfl, ?_, rfl, ?_⟩
    · exact World.ownsRow_nil _ _ _ _
    · exact Below.refl _ _
  case round =>
    obtain ⟨k, m, A', c', hk, hmk, rfl, rfl, HO, HLm, HB⟩ := hrel
    obtain ⟨wo, rfl⟩ : ∃ wo : World, wo = wr := ⟨_, rfl⟩
    by_cases hlt : k < z.ps.length
    · have jk : (k : Int) < (z.ps.length : Int) := by omega
      obtain ⟨x, hx⟩ := get_of_lt hlt
      have HS := Lib.hid (outL_succ hx)
      have C := fun i hi => pnsC_at hx i hi
      obtain ⟨bp, rfl, hbp, hbp2, c0'⟩ := own_at O5.out (j := k * 6 + 0) (u := .int .i64 x.q.a) (C 0 (by decide))
      have CC : Hid (∀ i u, i < 6 → (pnC x)[i]? = some u → wo.cell? ⟨bp, k * 6 + i, none⟩ = some u) := fun i u hi hu => by
        obtain ⟨bp', e', _, _, c'⟩ := own_at O5.out (j := k * 6 + i) (u := u) ((C i hi).trans hu)
        injection e' with e'
        injection e' with e'
        subst e'
        exact (HB.out.cell (p := ⟨bp, k * 6 + i, none⟩) hbp2).trans c'
      have c0 : wo.cell? ⟨bp, k * 6, none⟩ = some (.int .i64 x.q.a) := CC.out 0 _ (by decide) rfl
      have c1 : wo.cell? ⟨bp, k * 6 + 1, none⟩ = some (.int .i64 x.q.b) := CC.out 1 _ (by decide) rfl
      have c2 : wo.cell? ⟨bp, k * 6 + 2, none⟩ = some (.int .i64 x.q.c) := CC.out 2 _ (by decide) rfl
      have c3 : wo.cell? ⟨bp, k * 6 + 3, none⟩ = some (.int .i64 x.q.d) := CC.out 3 _ (by decide) rfl
      have c4 : wo.cell? ⟨bp, k * 6 + 4, none⟩ = some (.bool x.sew) := CC.out 4 _ (by decide) rfl
      have c5 : wo.cell? ⟨bp, k * 6 + 5, none⟩ = some (.bool x.out) := CC.out 5 _ (by decide) rfl
      clear c0' C hx
      obtain ⟨q, sw, ot⟩ := x
      obtain ⟨xa, xb, xc, xd⟩ := q
      simp only [] at c0 c1 c2 c3 c4 c5
      have CF := Lib.hid (fun W' => outF xa xb xc xd sw ot W')
      have hz := HB.out.size
      go_wp2_with fail
      refine (CF.out _).mono ?_
      rintro e w2 ⟨rfl, hb2⟩
      have O2 := Lib.hid (own_below (HO.out.alloc (.cells #[.int .i64 xa, .int .i64 xb, .int .i64 xc, .int .i64 xd, .bool sw, .bool ot] 91)) hb2)
      have B2 := Lib.hid (bvia (bvia HB.out (show Below wo.heap.size wo (wo.alloc (.cells #[.int .i64 xa, .int .i64 xb, .int .i64 xc, .int .i64 xd, .bool sw, .bool ot] 91)) by go_grown)) hb2)
      have hz2 : W.heap.size ≤ w2.heap.size := B2.out.size
      clear HO HB hb2 CF CC c0 c1 c2 c3 c4 c5
      obtain ⟨b, hb⟩ : ∃ b, b = ot := ⟨_, rfl⟩
      have HSB : Hid (ot = b) := hb.symm
      rw [← hb]
      clear hb
      cases b with
      | true =>
        go_wp2_with (at_builtin; refine wpList_app rfl (.tmp 21) (.tmp 23) _ rfl W.heap.size 3 (.int .i64 0) 1 8 Try.underlying39 infoInt rfl (by omega) (by omega) (.slice A' m c') _ _ rfl (O2.out.alloc _) w2.heap.size [vInt (k : Int)] rfl rfl (news_new _ _ _) (one_int _ _) (by omega) (by simp; omega) ?_; intro g1 cap1 w3 hg1 hown1 hgrow1 hor1)
        go_roundw
        case rel =>
          refine ⟨k + 1, m + 1, _, cap1, by omega, by omega, rfl, rfl, ?_, ?_, ?_⟩
          · show World.ownsRow _ _ _ _ _ _ _
            rw [HS.out, if_pos HSB.out, List.map_append]; exact hown1
          · show _ = _
            rw [HS.out, if_pos HSB.out, List.length_append, HLm.out]; rfl
          · show Below _ _ _
            exact (B2.out.alloc hz2 (.cells #[.int .i64 (k : Int)] 3)).grown hgrow1 (by simp; omega) (fun k hk => (O2.out.lt k hk).1)
        case measure => first | (simp [intOf]; done) | (simp [intOf]; omega)
      | false =>
        go_wp2
        go_roundw
        case rel =>
          refine ⟨k + 1, m, A', c', by omega, by omega, rfl, rfl, ?_, ?_, B2⟩
          · show World.ownsRow _ _ _ _ _ _ _
            rw [HS.out, if_neg (by rw [HSB.out]; decide)]; exact O2.out
          · show _ = _
            rw [HS.out, if_neg (by rw [HSB.out]; decide), HLm.out]
        case measure => first | (simp [intOf]; done) | (simp [intOf]; omega)
    · obtain rfl : k = z.ps.length := by omega
      have jk : ¬ (z.ps.length : Int) < (z.ps.length : Int) := by omega
      go_wp2
      go_ret
      exact ⟨A', m, c', rfl, HO.out, HLm.out, HB.out⟩
end Go.Proofs.Ytaenafcecfdffaa
