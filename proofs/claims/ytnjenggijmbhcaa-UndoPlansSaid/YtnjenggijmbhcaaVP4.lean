/-
  Contract of torchonref15.much: how many works can be made from a place.
-/
import Derived.Test.YtnjenggijmbhcaaVR4
import Derived.Test.YtnjenggijmbhcaaVP1
namespace Go.Proofs.Ytnjenggijmbhcaa
open Go.RowKit
theorem infoB15 : (Try.prog.info? 4).map (fun i => (i.zero, i.size, i.bytes)) = some (some (.bool false), 1, 1) := by kernel_rfl
theorem one_bools (ds : List Bool) : ∀ u ∈ ds.map vBool, u.oneCell' = true := fun u hu => by
  obtain ⟨x, _, rfl⟩ := List.mem_map.1 hu; rfl
theorem rdB_news {w : World} {B b o : Nat} {ds : List Bool} (h : RdB w B (some ⟨b, o, none⟩) ds) : ∀ j u, (ds.map vBool)[j]? = some u → w.cell? ((⟨b, o, none⟩ : Addr).add j) = some u := fun j u hu => by
  rw [List.getElem?_map] at hu
  cases hd : ds[j]? with
  | none => rw [hd] at hu; cases hu
  | some y =>
    rw [hd] at hu
    injection hu with hu
    obtain ⟨b', o', e, _, c0⟩ := h j y hd
    injection e with e; injection e with e1 e2
    subst e1 e2
    rw [Addr.add_lit, ← hu]; exact c0
theorem wpList_appB {w : World} {ops : Array Oper} {rest : List Oper} {o : Oper} {a : Act} {Q : Exit → Act → World → Prop} (hgd : o.guard = none) (s x : Operand)
    (ho : o.op = .call { callee := .builtin .append, args := #[s, x], argTypes := #[50, 50] })
    (base : Nat) (v : Value) (n : Nat) (xs : List Bool) (hs : a.eval s = v) (hown : w.ownsRow base 4 1 v n (xs.map vBool))
    (b o' : Nat) (m c : Nat) (ds : List Bool) (hx : a.eval x = .slice (some ⟨b, o', none⟩) m c) (hr : RdB w w.heap.size (some ⟨b, o', none⟩) ds) (hl : ds.length = m)
    (hn : n + m ≤ 1000000000) (hbase : base ≤ w.heap.size)
    (h : ∀ A' c' w', w'.ownsRow base 4 1 (.slice A' (n + m) c') (n + m) ((xs ++ ds).map vBool) → w.grownBy w' v.ownBlock → wpList Try.prog ops Q rest (a.put o.dst (.slice A' (n + m) c')) w') :
    wpList Try.prog ops Q (o :: rest) a w := by
  refine wpList_plain hgd fun K hK => ?_
  refine wp_appN s x 50 ho base 4 (.bool false) 1 1 Try.underlying50 infoB15 rfl (by omega) (by omega) v n (xs.map vBool) hs hown ⟨b, o', none⟩ m c (ds.map vBool) hx (by rw [List.length_map, hl]; omega) (rdB_news hr) (one_bools ds) hn hbase ?_
  intro v' w' hown' hgrow' _ _
  obtain ⟨A', c', rfl⟩ := own_form hown'
  exact hK _ _ (h A' c' w' (by rw [List.map_append]; exact hown') hgrow')
theorem own_has1 {w : World} {base : Nat} {e : TypeId} {n c : Nat} {A : Option Addr} {xs : List Value} (h : w.ownsRow base e 1 (.slice A n c) n xs) (hn : 0 < n) : ∃ g rest, A = some ⟨g, 0, none⟩ ∧ base ≤ g ∧ Has w g e (xs ++ rest) := by
  rcases h.2 with ⟨_, h0⟩ | ⟨g, cap, cur, hv, hg, hh, _, _, _, ht⟩
  · omega
  · injection hv with hv _ _
    refine ⟨g, cur.toList.drop (n * 1), hv, hg, ?_⟩
    unfold Has
    rw [hh, ← ht, List.take_append_drop]
theorem has_rdB {w : World} {g : Nat} {t : TypeId} {ds : List Bool} {rest : List Value} (h : Has w g t (ds.map vBool ++ rest)) : RdB w w.heap.size (some ⟨g, 0, none⟩) ds := fun k x hx => by
  have hk := lt_of_get hx
  refine ⟨g, 0, rfl, h.lt, ?_⟩
  rw [Nat.zero_add, h.cell k, List.getElem?_append_left (by rw [List.length_map]; exact hk), List.getElem?_map, hx]; rfl
theorem bools_set15 (ds : List Bool) (rest : List Value) (i : Nat) (h : i < ds.length) : (ds.map vBool ++ rest).set i (.bool true) = (ds.set i true).map vBool ++ rest := by
  rw [List.set_append_left _ _ (by rw [List.length_map]; exact h), List.map_set]
set_option maxRecDepth 100000 in
set_option maxHeartbeats 4000000 in
theorem much15 (p : Int) (h s : Nat) (A : Option Addr) (gm n c d : Nat) (ws : List Wk) (ds : List Bool) (w : World) (hw : RdW w w.heap.size A ws) (hl : ws.length = n) (hm : RdB w w.heap.size (some ⟨gm, 0, none⟩) ds) (hml : ds.length = n) (hn : n ≤ 400) (h0 : 0 < n) (hr : ∀ x ∈ ws, 0 ≤ x.at_ ∧ x.at_ ≤ 22) (hs : 2 ≤ s ∧ s ≤ 8) (hh : h ≤ 1000) :
    Calls Try.prog 93 #[.agg #[.int .i64 p, .slice A n c], .slice (some ⟨gm, 0, none⟩) n d, .int .i64 (h : Int), .int .i64 (s : Int)] w fun e w' => e = .returned (.int .i64 ((much ws (s - 1) (dOf ds) h : Nat) : Int)) ∧ Below w.heap.size w w' := by
  have HW := Lib.hid hw
  have HL := Lib.hid hl
  have HM := Lib.hid hm
  have HML := Lib.hid hml
  have HR := Lib.hid hr
  clear hw hl hm hml hr
  obtain ⟨tot, htot⟩ : ∃ t, t = much ws (s - 1) (dOf ds) h := ⟨_, rfl⟩
  rw [← htot]
  have HTOT := Lib.hid htot
  have htn : tot ≤ n := by
    have h1 := sweep_und (ws := ws) (h := h) (m := s - 1) (und ws (dOf ds)) (D := dOf ds) (Nat.le_refl _)
    have h2 := und_le ws (dOf ds)
    rw [HL.out] at h2
    rw [htot]; unfold much; omega
  clear htot
  have CN : ∀ (W : World) (M : Option Addr) (dd : Nat) (es : List Bool), RdW W W.heap.size A ws → RdB W W.heap.size M es → es.length = n → Calls Try.prog 91 #[.agg #[.int .i64 p, .slice A n c], .slice M n dd, .int .i64 (h : Int), .int .i64 (s : Int)] W fun e w' => e = .returned (.int .i64 (nI (nxt ws (dOf es) h (s - 1)))) ∧ Below W.heap.size W w' := fun W M dd es g1 g2 g3 => by
    have := next15 p (h : Int) (s : Int) A M n c dd ws es W g1 HL.out g2 g3 hn HR.out (by omega) (by omega)
    rw [show bestTo ws (dOf es) (h : Int) (s : Int) n = nxt ws (dOf es) h (s - 1) by rw [← best_nxt hs.1, HL.out]] at this
    exact this
  have CN := Lib.hid CN
  have K0 : Has (w.alloc (.cells #[.int .i64 p, .slice A n c] 24)) w.heap.size 24 [.int .i64 p, .slice A n c] := Has.new rfl
  have B0 : Below w.heap.size w (w.alloc (.cells #[.int .i64 p, .slice A n c] 24)) := by go_grown
  have HM0 := Lib.hid (HM.out.up B0)
  go_enter Try.func93, Try.ntmps93
  go_upto_region 1 with (fail)
  have hz0 : (w.alloc (.cells #[.int .i64 p, .slice A n c] 24)).heap.size = w.heap.size + 1 := by simp
  have HK0 := Lib.hid K0
  have HB0 := Lib.hid B0
  clear K0 B0
  generalize (w.alloc (.cells #[.int .i64 p, .slice A n c] 24)) = w0 at *
  have n0 : w.heap.size + 1 ≤ w0.heap.size := by omega
  clear hz0
  go_upto_region 2 with (at_builtin; refine wpList_appB rfl (.tmp 12) (.tmp 13) rfl w0.heap.size (.slice (some ⟨w0.heap.size, 0, none⟩) 0 0) 0 [] rfl (own_lit0 (Nat.le_refl _)) gm 0 n d ds rfl (HM0.out.up (by go_grown)) HML.out (by omega) (by simp) ?_; intro A1 c1 w1 ho1 hg1)
  rw [Nat.zero_add] at ho1
  obtain ⟨gl, rest, rfl, hgl, hL⟩ := own_has1 ho1 h0
  have B1 : Below w0.heap.size w0 w1 := ((Below.refl w0.heap.size w0).alloc (Nat.le_refl _) (.cells #[] 4)).grown hg1 (by simp) (fun k hk => by have h := Option.some.inj (show some w0.heap.size = some k from hk); omega)
  have HL1 := Lib.hid hL
  have HK1 := Lib.hid (HK0.out.below B1 HK0.out.lt)
  have HB1 := Lib.hid (HB0.out.trans (B1.mono (by omega)))
  have s0 := HK1.out.cell 0
  have s1 := HK1.out.cell 1
  have s2 := HK1.out.lt
  have C1 := CN.out w1 (some ⟨gl, 0, none⟩) c1 ds (HW.out.up HB1.out) (has_rdB HL1.out) HML.out
  clear hL ho1 hg1 B1 HK0 HB0 HM0
  go_wp2_with fail
  refine C1.mono ?_
  rintro e w2 ⟨rfl, hb2⟩
  have HL2 := Lib.hid (HL1.out.below hb2 HL1.out.lt)
  have HK2 := Lib.hid (HK1.out.below hb2 HK1.out.lt)
  have HB2 := Lib.hid (bvia HB1.out hb2)
  clear C1 hb2 HL1 HK1 HB1 s0 s1 s2
  go_wp2
  go_loopw [10, 11] (fun rv iv wr => ∃ (r : Nat) (iz : Int) (es : List Bool), r ≤ n ∧ rv = .int .i64 (r : Int) ∧ iv = .int .i64 iz ∧ Hid (iz = nI (nxt ws (dOf es) h (s - 1))) ∧ Hid (es.length = n) ∧ Hid (Has wr gl 4 (es.map vBool ++ rest)) ∧ Hid (Has wr w.heap.size 24 [.int .i64 p, .slice A n c]) ∧ Hid (r + (sweep ws h (s - 1) (dOf es)).length = tot) ∧ Hid (Below w.heap.size w wr)) (fun r' _ _ => n - (intOf r').toNat)
  case atStart => exact ⟨0, _, ds, Nat.zero_le _, rfl, rfl, rfl, HML, HL2, HK2, by show _ = _; rw [HTOT.out, Nat.zero_add]; rfl, HB2⟩
  case round =>
    clear HL2 HK2 HB2
    obtain ⟨r, iz, es, hrn, rfl, rfl, HIZ, HEL, HLB, HK, HT, HB⟩ := hrel
    obtain ⟨wo, rfl⟩ : ∃ wo : World, wo = wr := ⟨_, rfl⟩
    cases hx : nxt ws (dOf es) h (s - 1) with
    | none =>
      have hiz : iz = -1 := by have := HIZ.out; rw [hx] at this; exact this
      subst hiz
      have HE : Hid (r = tot) := by have := HT.out; rw [sweep_none hx] at this; exact this
      clear hx
      go_wp2
      go_ret
      exact ⟨ret_int (by rw [HE.out]), HB.out⟩
    | some j =>
      have hiz : iz = (j : Int) := by have := HIZ.out; rw [hx] at this; exact this
      subst hiz
      have hT := HT.out
      rw [sweep_some hx, List.length_cons] at hT
      obtain ⟨q, _, _, hf, _⟩ := nxt_some hx
      have hjn : j < n := by have := (frt_lt hf).1; rw [HL.out] at this; exact this
      have HT2 : Hid ((r + 1) + (sweep ws h (s - 1) (dOf (es.set j true))).length = tot) := by show _ = _; rw [dOf_set (by rw [HEL.out]; exact hjn)]; omega
      have hrr : r < n := by omega
      have j0 : (0 : Int) ≤ (j : Int) := by omega
      have jn : (j : Int) < (n : Int) := by omega
      obtain ⟨yj, hyj⟩ := get_of_lt (l := es) (k := j) (by rw [HEL.out]; exact hjn)
      obtain ⟨_, _, e9, _, c0⟩ := has_rdB HLB.out j yj hyj
      injection e9 with e9; injection e9 with e1 e2
      subst e1 e2
      rw [Nat.zero_add] at c0
      have y0 := HLB.out.free j
      have y1 := HLB.out.lt
      have i1 : IntKind.i64.wrap ((r : Int) + 1) = (r : Int) + 1 := IntWalk.i64_in _ (by omega)
      clear hx hT hf
      go_upto_region 5 with (fail)
      have L8 : Has (wo.setCell ⟨gl, j, none⟩ (.bool true)) gl 4 ((es.set j true).map vBool ++ rest) := by
        have := HLB.out.set j (.bool true)
        rwa [bools_set15 es rest j (by rw [HEL.out]; exact hjn)] at this
      have hgk : w.heap.size ≠ gl := fun e => by
        have h1 := HLB.out
        rw [← e] at h1
        have h2 := HK.out
        unfold Has at h1 h2
        rw [h2] at h1
        injection h1 with h1
        injection h1 with _ h1 _
        exact absurd h1 (by decide)
      have hglw : w.heap.size ≤ gl := by omega
      have K8 : Has (wo.setCell ⟨gl, j, none⟩ (.bool true)) w.heap.size 24 [.int .i64 p, .slice A n c] := HK.out.far hgk _ _
      have B8 : Below w.heap.size w (wo.setCell ⟨gl, j, none⟩ (.bool true)) := HB.out.setCell (p := ⟨gl, j, none⟩) hglw _
      clear c0 y0 y1 HLB HK HB
      generalize (wo.setCell ⟨gl, j, none⟩ (.bool true)) = w8 at *
      have HL8 := Lib.hid L8
      have HK8 := Lib.hid K8
      have HB8 := Lib.hid B8
      have s0 := K8.cell 0
      have s1 := K8.cell 1
      have s2 := K8.lt
      have HSL : Hid ((es.set j true).length = n) := by show _ = _; rw [List.length_set]; exact HEL.out
      have C8 := CN.out w8 (some ⟨gl, 0, none⟩) c1 (es.set j true) (HW.out.up B8) (has_rdB L8) HSL.out
      clear L8 K8 B8
      go_wp2_with fail
      refine C8.mono ?_
      rintro e w9 ⟨rfl, hb9⟩
      have HL9 := Lib.hid (HL8.out.below hb9 HL8.out.lt)
      have HK9 := Lib.hid (HK8.out.below hb9 HK8.out.lt)
      have HB9 := Lib.hid (bvia HB8.out hb9)
      clear C8 hb9 s0 s1 s2
      go_wp2
      go_roundw
      case rel => exact ⟨r + 1, _, es.set j true, by omega, by go_num, rfl, rfl, HSL, HL9, HK9, HT2, HB9⟩
      case measure => first | (simp [intOf]; done) | (simp [intOf]; omega)
end Go.Proofs.Ytnjenggijmbhcaa
