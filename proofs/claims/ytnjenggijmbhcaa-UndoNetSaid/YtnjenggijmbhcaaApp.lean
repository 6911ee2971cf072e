/-
  Append of a slice of works to a row of the call's own, in a region whose order is drawn; the law's 'after'.
-/
import Derived.Test.YtnjenggijmbhcaaOwn
import Derived.Test.YtnjenggijmbhcaaR05s
namespace Go.Proofs.Ytnjenggijmbhcaa
open Go.RowKit
theorem run_app0 {P : Program} (w : World) (t ty e : TypeId) (i : TypeInfo) (ht : P.underlying t = some (.slice e)) (hi : P.info? e = some i) (B : Option Addr) (n d c : Nat) (h : n ≤ d) :
    (Builtin.append_ #[t, t] ty #[.slice B n d, .slice none 0 c]).run P w = .ok (.slice B n d) w := by
  cases B <;> simp [Builtin.append_, run_underlying ht, sizeOf, typeInfo, hi, Builtin.lenOf, Builtin.firstCells, h, storeCells]
theorem rdW_wks {w : World} {B b o : Nat} {ws : List Wk} (h : RdW w B (some ⟨b, o, none⟩) ws) : ∀ j u, (wksCells ws)[j]? = some u → w.cell? ((⟨b, o, none⟩ : Addr).add j) = some u := fun j u hu => by
  have hj := lt_of_get hu
  rw [wksCells_len] at hj
  obtain ⟨x, hx⟩ := get_of_lt (l := ws) (k := j / 3) (by omega)
  obtain ⟨b', o', e, _, c0, c1, c2⟩ := h _ x hx
  injection e with e; injection e with e1 e2
  subst e1 e2
  obtain ⟨g0, g1, g2⟩ := wksCells_get hx
  rw [Addr.add_lit]
  have hm : j = j / 3 * 3 ∨ j = j / 3 * 3 + 1 ∨ j = j / 3 * 3 + 2 := by omega
  rcases hm with e | e | e
  · rw [← e] at g0 c0
    rw [g0] at hu; injection hu with hu
    rw [← hu]; exact c0
  · rw [← e] at g1
    rw [Nat.add_assoc, ← e] at c1
    rw [g1] at hu; injection hu with hu
    rw [← hu]; exact c1
  · rw [← e] at g2
    rw [Nat.add_assoc, ← e] at c2
    rw [g2] at hu; injection hu with hu
    rw [← hu]; exact c2
theorem step_appW {w : World} {ops : Array Oper} {o : Oper} {a : Act} {K : Act → World → Prop} {Q : Exit → Act → World → Prop} {E : Prop} (hgd : o.guard = none) (s x : Operand)
    (ho : o.op = .call { callee := .builtin .append, args := #[s, x], argTypes := #[22, 22] })
    (base : Nat) (v : Value) (n : Nat) (xs : List Wk) (hs : a.eval s = v) (hown : w.ownsRow base 26 3 v n (wksCells xs))
    (A : Option Addr) (m c : Nat) (ws : List Wk) (hx : a.eval x = .slice A m c) (hr : RdW w w.heap.size A ws) (hl : ws.length = m)
    (hn : n + m ≤ 1000000000) (hbase : base ≤ w.heap.size)
    (h : ∀ A' c' w', w'.ownsRow base 26 3 (.slice A' (n + m) c') (n + m) (wksCells (xs ++ ws)) → w.grownBy w' v.ownBlock → K (a.put o.dst (.slice A' (n + m) c')) w') :
    if Region.wanted o (yielded ops a.tmps) = true then o.wp Try.prog a w K Q else E := by
  have happ : wksCells xs ++ wksCells ws = wksCells (xs ++ ws) := by simp [wksCells]
  cases A with
  | none =>
    have hw0 : ws = [] := by
      cases ws with
      | nil => rfl
      | cons y ws => obtain ⟨b, o', e, _⟩ := hr 0 y rfl; cases e
    subst hw0
    obtain rfl : 0 = m := hl
    have hw : Region.wanted o (yielded ops a.tmps) = true := by simp [Region.wanted, hgd]
    rw [if_pos hw]
    obtain ⟨B, d, rfl⟩ := own_form hown
    obtain ⟨i, hi, hz, hsize, hb⟩ := info_parts infoWk
    have hcc := own_caps hown
    have hrun := run_app0 (P := Try.prog) w 22 o.type 26 i Try.underlying22 hi B n d c hcc.1
    unfold Oper.wp execOp
    simp only [ho, resolve, invoke, builtin, Sem.run_bind, Sem.run_pure, Result.andThen_ok, List.map_toArray, List.map_cons, List.map_nil, hs, hx, hrun]
    exact h B d w (by rw [List.append_nil]; exact hown) ⟨rfl, rfl, rfl, Nat.le_refl _, fun _ _ _ => rfl⟩
  | some ad =>
    refine step_appN hgd s x 22 ho base 26 (.agg #[.int .i64 0, .int .i64 0, .string ⟨#[]⟩]) 3 32 Try.underlying22 infoWk rfl (by omega) (by omega) v n (wksCells xs) hs hown ad m c (wksCells ws) hx (by rw [wksCells_len, hl]) ?_ (one_wks ws) hn hbase ?_
    · cases ws with
      | nil => intro j u hu; simp [wksCells] at hu
      | cons y ws =>
        obtain ⟨b, o', e, _⟩ := hr 0 y rfl
        injection e with e
        subst e
        exact rdW_wks hr
    · intro v' w' hown' hgrow' _ _
      obtain ⟨A', c', rfl⟩ := own_form hown'
      exact h A' c' w' (by rw [← happ]; exact hown') hgrow'
/-- an ending: a sheet in memory -/
def RetS (p : Int) (ws : List Wk) (w : World) (e : Ending) (w' : World) : Prop := ∃ A n c, e = .returned (.agg #[.int .i64 p, .slice A n c]) ∧ RdW w' w'.heap.size A ws ∧ ws.length = n ∧ n ≤ c ∧ c ≤ 9223372036854775807 ∧ Below w.heap.size w w'
set_option maxRecDepth 100000 in
set_option maxHeartbeats 1000000 in
theorem after28 (p q : Int) (A B : Option Addr) (n m c d : Nat) (us vs : List Wk) (w : World) (hu : RdW w w.heap.size A us) (hv : RdW w w.heap.size B vs) (hl : us.length = n) (hl' : vs.length = m) (hn : n ≤ 1000) (hm : m ≤ 1000) :
    Calls Try.prog 23 #[.agg #[.int .i64 p, .slice A n c], .agg #[.int .i64 q, .slice B m d]] w (RetS p (us ++ vs) w) := by
  have HU := Lib.hid hu; clear hu
  have HV := Lib.hid hv; clear hv
  have HL := Lib.hid hl; clear hl
  have HL' := Lib.hid hl'; clear hl'
  have K0 : Has (((w.alloc (.cells #[.int .i64 p, .slice A n c] 24)).alloc (.cells #[.int .i64 q, .slice B m d] 24)).alloc (.cells #[.int .i64 0, .slice none 0 0] 24)) w.heap.size 24 [.int .i64 p, .slice A n c] := ((Has.new rfl).alloc _).alloc _
  have K1 : Has (((w.alloc (.cells #[.int .i64 p, .slice A n c] 24)).alloc (.cells #[.int .i64 q, .slice B m d] 24)).alloc (.cells #[.int .i64 0, .slice none 0 0] 24)) (w.heap.size + 1) 24 [.int .i64 q, .slice B m d] := by
    have := (Has.new (w := w.alloc (.cells #[.int .i64 p, .slice A n c] 24)) (arr := #[.int .i64 q, .slice B m d]) (t := 24) (cs := [.int .i64 q, .slice B m d]) rfl).alloc (.cells #[.int .i64 0, .slice none 0 0] 24)
    simpa using this
  have K2 : Has (((w.alloc (.cells #[.int .i64 p, .slice A n c] 24)).alloc (.cells #[.int .i64 q, .slice B m d] 24)).alloc (.cells #[.int .i64 0, .slice none 0 0] 24)) (w.heap.size + 2) 24 [.int .i64 0, .slice none 0 0] := by
    have := Has.new (w := (w.alloc (.cells #[.int .i64 p, .slice A n c] 24)).alloc (.cells #[.int .i64 q, .slice B m d] 24)) (arr := #[.int .i64 0, .slice none 0 0]) (t := 24) (cs := [.int .i64 0, .slice none 0 0]) rfl
    simpa using this
  have B0 : Below w.heap.size w (((w.alloc (.cells #[.int .i64 p, .slice A n c] 24)).alloc (.cells #[.int .i64 q, .slice B m d] 24)).alloc (.cells #[.int .i64 0, .slice none 0 0] 24)) := by go_grown
  have hz0 : (((w.alloc (.cells #[.int .i64 p, .slice A n c] 24)).alloc (.cells #[.int .i64 q, .slice B m d] 24)).alloc (.cells #[.int .i64 0, .slice none 0 0] 24)).heap.size = w.heap.size + 3 := by simp
  go_enter Try.func23, Try.ntmps23
  go_wp2
  generalize (((w.alloc (.cells #[.int .i64 p, .slice A n c] 24)).alloc (.cells #[.int .i64 q, .slice B m d] 24)).alloc (.cells #[.int .i64 0, .slice none 0 0] 24)) = wo at *
  have HK := Lib.hid (show ∀ w', Below (w.heap.size + 3) wo w' → w'.cell? ⟨w.heap.size, 0, none⟩ = some (.int .i64 p) ∧ w'.cell? ⟨w.heap.size, 1, none⟩ = some (.slice A n c) ∧ w'.cell? ⟨w.heap.size + 1, 1, none⟩ = some (.slice B m d) from
    fun w' hb => ⟨(K0.below hb (by omega)).cell 0, (K0.below hb (by omega)).cell 1, (K1.below hb (by omega)).cell 1⟩)
  obtain ⟨r0, r1, r2⟩ := HK.out _ (Below.refl _ _)
  have HK2 := Lib.hid (fun w' (hb : Below (w.heap.size + 3) wo w') => K2.below hb (by omega))
  have z0 : w.heap.size < wo.heap.size := by omega
  have z1 : w.heap.size + 1 < wo.heap.size := by omega
  have z2 : w.heap.size + 2 < wo.heap.size := by omega
  have z3 : w.heap.size + 3 ≤ wo.heap.size := by omega
  obtain ⟨sq, hsq⟩ : ∃ sq, sq = w.heap.size + 1 + 1 := ⟨_, rfl⟩
  rw [← hsq]
  have hq0 : w.heap.size ≠ sq := by omega
  have hq1 : w.heap.size + 1 ≠ sq := by omega
  have hq0' : sq ≠ w.heap.size := by omega
  have hq1' : sq ≠ w.heap.size + 1 := by omega
  have hq2 : w.heap.size ≤ sq := by omega
  have hsq2 : w.heap.size + 2 = sq := by omega
  rw [hsq2] at HK2 z2
  clear K0 K1 K2 hz0 hsq
  have HQ := Lib.hid hsq2; clear hsq2
  go_region_held3 (fun w' => w'.cell? ⟨w.heap.size, 0, none⟩ = some (.int .i64 p) ∧ w'.cell? ⟨w.heap.size, 1, none⟩ = some (.slice A n c) ∧ w'.cell? ⟨w.heap.size + 1, 1, none⟩ = some (.slice B m d)) (go_keep) (first | (refine step_appW rfl (.tmp 7) (.tmp 9) rfl (w.heap.size + 3) (.slice (some ⟨wo.heap.size, 0, none⟩) 0 0) 0 [] rfl (own_lit0 (by omega)) A n c us rfl (HU.out.up (bvia B0 (by go_grown))) HL.out (by omega) (by simp; omega) ?_; intro A1 c1 w1 hown1 hgrow1; have hb1 := (((Below.refl (w.heap.size + 3) wo).alloc (by omega) (.cells #[] 26)).drew).grown hgrow1 (by simp; omega) (fun k hk => by simp [Value.ownBlock] at hk; omega); obtain ⟨t0, t1, t2⟩ := HK.out _ hb1) | (refine step_appW rfl (.tmp 10) (.tmp 12) rfl (w.heap.size + 3) (.slice A1 (0 + n) c1) (0 + n) _ rfl hown1 B m d vs rfl (HV.out.up (B0.trans (hb1.mono (by omega)))) HL'.out (by omega) (by have := hb1.size; omega) ?_; intro A2 c2 w2 hown2 hgrow2; have hb2 := hb1.grown hgrow2 (by have := hb1.size; omega) (fun k hk => by have := (hown1.lt k hk).1; omega); obtain ⟨u0, u1, u2⟩ := HK.out _ hb2; have Q2 := HK2.out _ hb2; have x0 : w2.cell? ⟨sq, 0, none⟩ = some (.int .i64 0) := Q2.cell 0; have x1 : w2.cell? ⟨sq, 1, none⟩ = some (.slice none 0 0) := Q2.cell 1; have f0 := Q2.free 0; have f1 := Q2.free 1; have ql := Q2.lt; have HQ2 := Lib.hid Q2; clear Q2))
  go_wp2
  refine post_cell ((HQ2.out.set 0 _).set 1 _) Try.results23 rfl rfl Try.underlying24 (by kernel_rfl) ?_
  rw [Nat.zero_add] at hown2
  have hown3 := ownsRow_setCell_below (ownsRow_setCell_below hown2 (a := ⟨sq, 0, none⟩) (by have := HQ.out; simp; omega) (.int .i64 p)) (a := ⟨sq, 1, none⟩) (by have := HQ.out; simp; omega) (.slice A2 (n + m) c2)
  have hcc := own_caps hown3
  refine ⟨A2, _, c2, rfl, own_rdW hown3, by rw [List.length_append, HL.out, HL'.out], hcc.1, hcc.2, ((B0.trans (hb2.mono (by omega))).setCell (by simpa using hq2) _).setCell (by simpa using hq2) _⟩
end Go.Proofs.Ytnjenggijmbhcaa
