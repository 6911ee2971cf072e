/-
  Plain law of the group: its members are the matrices that keep the lattice; it has 2, 4, 8 or 12 of them.
-/
import Derived.Test.YtmghpaibdgkbfaaVB2
import Derived.Test.YtmghpaibdgkbfaaVB6
import Derived.Test.YtmghpaibdgkbfaaVB7
import Derived.Test.YtmghpaibdgkbfaaVB8
import Derived.Test.YtmghpaibdgkbfaaVB9
import Derived.Test.YtmghpaibdgkbfaaVB11
import Derived.Deep.CutRange
import Derived.Laws.Cover3
namespace Go.Proofs.Ytmghpaibdgkbfaa
theorem cand_in : ∀ i, i < 81 → ((-1 ≤ (cand i).a ∧ (cand i).a ≤ 1) ∧ (-1 ≤ (cand i).b ∧ (cand i).b ≤ 1) ∧ (-1 ≤ (cand i).c ∧ (cand i).c ≤ 1) ∧ (-1 ≤ (cand i).d ∧ (cand i).d ≤ 1)) := by decide +kernel
def Alike (l l' : La.Lat) : Prop := ∀ p q r s : Int, (p = -1 ∨ p = 0 ∨ p = 1) → (q = -1 ∨ q = 0 ∨ q = 1) → (r = -1 ∨ r = 0 ∨ r = 1) → (s = -1 ∨ s = 0 ∨ s = 1) → (La.lead l ⟨p, q, r, s⟩ = l ↔ La.lead l' ⟨p, q, r, s⟩ = l')
theorem grp_alike {l l' : La.Lat} (h : Alike l l') : grp l 81 = grp l' 81 := by
  unfold grp
  refine List.filter_congr fun m hm => ?_
  obtain ⟨i, hi, rfl⟩ := List.mem_map.1 hm
  obtain ⟨h1, h2, h3, h4⟩ := cand_in i (List.mem_range.1 hi)
  have := h (cand i).a (cand i).b (cand i).c (cand i).d (by omega) (by omega) (by omega) (by omega)
  simp only [decide_eq_decide]
  exact this
theorem alikeA {a b c : Int} (ha : 1 ≤ a) (hb : b = 0) (hc : a < c) : Alike ⟨a, b, c⟩ ⟨1, 0, 2⟩ := by
  intro p q r s hp hq hr hs
  simp only [La.lead, La.prod, La.Lat.mk.injEq]
  rcases hp with rfl | rfl | rfl <;> rcases hq with rfl | rfl | rfl <;> rcases hr with rfl | rfl | rfl <;> rcases hs with rfl | rfl | rfl <;> omega
theorem alikeB {a b c : Int} (ha : 1 ≤ a) (hb : b = 0) (hc : a = c) : Alike ⟨a, b, c⟩ ⟨1, 0, 1⟩ := by
  intro p q r s hp hq hr hs
  simp only [La.lead, La.prod, La.Lat.mk.injEq]
  rcases hp with rfl | rfl | rfl <;> rcases hq with rfl | rfl | rfl <;> rcases hr with rfl | rfl | rfl <;> rcases hs with rfl | rfl | rfl <;> omega
theorem alikeC {a b c : Int} (ha : 1 ≤ a) (hb : 0 < b ∧ 2 * b < a) (hc : a < c) : Alike ⟨a, b, c⟩ ⟨3, 1, 4⟩ := by
  intro p q r s hp hq hr hs
  simp only [La.lead, La.prod, La.Lat.mk.injEq]
  rcases hp with rfl | rfl | rfl <;> rcases hq with rfl | rfl | rfl <;> rcases hr with rfl | rfl | rfl <;> rcases hs with rfl | rfl | rfl <;> omega
theorem alikeD {a b c : Int} (ha : 1 ≤ a) (hb : 0 < b ∧ 2 * b < a) (hc : a = c) : Alike ⟨a, b, c⟩ ⟨3, 1, 3⟩ := by
  intro p q r s hp hq hr hs
  simp only [La.lead, La.prod, La.Lat.mk.injEq]
  rcases hp with rfl | rfl | rfl <;> rcases hq with rfl | rfl | rfl <;> rcases hr with rfl | rfl | rfl <;> rcases hs with rfl | rfl | rfl <;> omega
theorem alikeE {a b c : Int} (ha : 1 ≤ a) (hb : 2 * b = a) (hc : a < c) : Alike ⟨a, b, c⟩ ⟨2, 1, 3⟩ := by
  intro p q r s hp hq hr hs
  simp only [La.lead, La.prod, La.Lat.mk.injEq]
  rcases hp with rfl | rfl | rfl <;> rcases hq with rfl | rfl | rfl <;> rcases hr with rfl | rfl | rfl <;> rcases hs with rfl | rfl | rfl <;> omega
theorem alikeF {a b c : Int} (ha : 1 ≤ a) (hb : 2 * b = a) (hc : a = c) : Alike ⟨a, b, c⟩ ⟨2, 1, 2⟩ := by
  intro p q r s hp hq hr hs
  simp only [La.lead, La.prod, La.Lat.mk.injEq]
  rcases hp with rfl | rfl | rfl <;> rcases hq with rfl | rfl | rfl <;> rcases hr with rfl | rfl | rfl <;> rcases hs with rfl | rfl | rfl <;> omega
theorem grp_count {l : La.Lat} (ha : 1 ≤ l.a) (h : La.Red l) : (grp l 81).length = 2 ∨ (grp l 81).length = 4 ∨ (grp l 81).length = 8 ∨ (grp l 81).length = 12 := by
  obtain ⟨a, b, c⟩ := l
  obtain ⟨h0, h1, h2⟩ := h
  simp only at ha h0 h1 h2
  rcases (show b = 0 ∨ (0 < b ∧ 2 * b < a) ∨ 2 * b = a by omega) with hb | hb | hb <;> rcases (show a < c ∨ a = c by omega) with hc | hc
  · rw [grp_alike (alikeA ha hb hc)]; decide +kernel
  · rw [grp_alike (alikeB ha hb hc)]; decide +kernel
  · rw [grp_alike (alikeC ha hb hc)]; decide +kernel
  · rw [grp_alike (alikeD ha hb hc)]; decide +kernel
  · rw [grp_alike (alikeE ha hb hc)]; decide +kernel
  · rw [grp_alike (alikeF ha hb hc)]; decide +kernel
theorem conj_mem {L l : La.Lat} {m : La.Mat} {ms : List La.Mat} (h : La.St L l m) (r : La.Red l) (hp : ms.Perm ((grp l 81).map (conj m))) (x : La.Mat) : x ∈ ms ↔ La.lead L x = L := by
  have hb := La.lead_inv h.u h.e
  rw [hp.mem_iff, List.mem_map]
  constructor
  · rintro ⟨y, hy, rfl⟩
    have hk := (grp_iff.1 hy).2
    unfold conj
    rw [La.lead_mul, La.lead_mul, h.e, hk, hb]
  · intro hx
    have e1 : La.lead l (La.mul (La.mul (La.inv m) x) m) = l := by rw [La.lead_mul, La.lead_mul, hb, hx, h.e]
    refine ⟨La.mul (La.mul (La.inv m) x) m, grp_iff.2 ⟨La.keep_small r h.v.a1 h.v.d1 e1, e1⟩, ?_⟩
    unfold conj
    rw [La.mul_assoc, La.mul_assoc (La.mul (La.inv m) x) m, La.mul_inv h.u, La.mul_one, ← La.mul_assoc, La.mul_inv h.u, La.one_mul]
structure KeepG (L : La.Lat) (x : La.Mat) : Prop where
  e : La.lead L x = L
  u : La.unit x
  a : In6 10000 x.a
  b : In6 10000 x.b
  c : In6 10000 x.c
  d : In6 10000 x.d
theorem keepG {L : La.Lat} (v : La.Val L) (ha : L.a ≤ 10000) (hc : L.c ≤ 10000) {x : La.Mat} (e : La.lead L x = L) : KeepG L x := by
  have u := La.lead_unit v.d1 e
  obtain ⟨⟨fa, fc⟩, ⟨fb, fd⟩⟩ := La.St.fit ⟨e, u, v, ha, hc⟩ v ha hc
  exact ⟨e, u, fa, fb, fc, fd⟩
theorem im_in {a b x y : Int} (ha : In6 10000 a) (hb : In6 10000 b) (hx : In6 10 x) (hy : In6 10 y) : -200000 ≤ a * x + b * y ∧ a * x + b * y ≤ 200000 := by
  have h1 := mb 10000 10 100000 ha hx (by decide)
  have h2 := mb 10000 10 100000 hb hy (by decide)
  omega
theorem apK {a b c d x y : Int} (ha : In6 10000 a) (hb : In6 10000 b) (hc : In6 10000 c) (hd : In6 10000 d) (hx : In6 10 x) (hy : In6 10 y) : apR a b c d 0 0 x y = (a * x + b * y, c * x + d * y, 0) := by
  have h1 := im_in ha hb hx hy
  have h2 := im_in hc hd hx hy
  unfold apR
  rw [if_pos ⟨(okV_iff ..).2 ⟨⟨ha, hb, hc, hd⟩, ⟨by decide, by decide⟩, ⟨by decide, by decide⟩⟩, (okP_iff ..).2 ⟨⟨by have := hx.1; omega, by have := hx.2; omega⟩, ⟨by have := hy.1; omega, by have := hy.2; omega⟩⟩⟩]
  unfold imX
  rw [Int.add_zero, Int.add_zero, if_pos ((okP_iff ..).2 ⟨⟨by omega, by omega⟩, ⟨by omega, by omega⟩⟩)]
theorem okPs_of {l : List (Int × Int)} (h : ∀ p ∈ l, okP p.1 p.2 = true) : okPs l = true := by
  unfold okPs
  first | exact List.all_eq_true.2 h | (rw [List.all_eq_true]; exact fun p hp => h p hp)
theorem dotK {a b c px py qx qy : Int} (hl : okL a b c = true) (h1 : okP px py = true) (h2 : okP qx qy = true) : dotR a b c px py qx qy qx qy = (La.prod ⟨a, b, c⟩ (qx - px) (qy - py) (qx - px) (qy - py), 0) := by
  unfold dotR
  rw [if_pos ⟨hl, okPs_of (by intro p hp; simp only [List.mem_cons, List.not_mem_nil, or_false] at hp; rcases hp with rfl | rfl | rfl <;> assumption)⟩, prodL_la]
theorem sideK {px py qx qy rx ry : Int} (h1 : okP px py = true) (h2 : okP qx qy = true) (h3 : okP rx ry = true) : sideR px py qx qy rx ry = (sgn ((qx - px) * (ry - py) - (qy - py) * (rx - px)), 0) := by
  unfold sideR
  rw [if_pos (okPs_of (by intro p hp; simp only [List.mem_cons, List.not_mem_nil, or_false] at hp; rcases hp with rfl | rfl | rfl <;> assumption))]
theorem okP_small {x y : Int} (hx : -200000 ≤ x ∧ x ≤ 200000) (hy : -200000 ≤ y ∧ y ≤ 200000) : okP x y = true := (okP_iff ..).2 ⟨⟨by omega, by omega⟩, ⟨by omega, by omega⟩⟩
theorem sgn_unit {D z : Int} (h : D = 1 ∨ D = -1) : sgn (D * z) = D * sgn z := by
  unfold sgn
  rcases h with rfl | rfl
  · rw [Int.one_mul, Int.one_mul]
  · rcases Int.lt_trichotomy z 0 with h | h | h
    · rw [if_neg (by omega), if_pos (by omega), if_pos h]; rfl
    · subst h; rfl
    · rw [if_pos (by omega), if_neg (by omega), if_pos h]; rfl
theorem sq_keep {L : La.Lat} {g : La.Mat} (h : La.lead L g = L) (px py qx qy : Int) : La.prod L ((g.a * qx + g.b * qy) - (g.a * px + g.b * py)) ((g.c * qx + g.d * qy) - (g.c * px + g.d * py)) ((g.a * qx + g.b * qy) - (g.a * px + g.b * py)) ((g.c * qx + g.d * qy) - (g.c * px + g.d * py)) = La.prod L (qx - px) (qy - py) (qx - px) (qy - py) := by
  have e := La.prod_lead L g (qx - px) (qy - py) (qx - px) (qy - py)
  rw [h] at e
  rw [e]
  have e1 : (g.a * qx + g.b * qy) - (g.a * px + g.b * py) = g.a * (qx - px) + g.b * (qy - py) := by grind
  have e2 : (g.c * qx + g.d * qy) - (g.c * px + g.d * py) = g.c * (qx - px) + g.d * (qy - py) := by grind
  rw [e1, e2]
theorem side_keep (g : La.Mat) (px py qx qy rx ry : Int) : ((g.a * qx + g.b * qy) - (g.a * px + g.b * py)) * ((g.c * rx + g.d * ry) - (g.c * px + g.d * py)) - ((g.c * qx + g.d * qy) - (g.c * px + g.d * py)) * ((g.a * rx + g.b * ry) - (g.a * px + g.b * py)) = La.det g * ((qx - px) * (ry - py) - (qy - py) * (rx - px)) := by
  unfold La.det; grind
theorem invK {a b c d : Int} (ha : In6 10000 a) (hb : In6 10000 b) (hc : In6 10000 c) (hd : In6 10000 d) (hu : a * d - b * c = 1 ∨ a * d - b * c = -1) : invR a b c d 0 0 = (vV ((a * d - b * c) * d) (-(a * d - b * c) * b) (-(a * d - b * c) * c) ((a * d - b * c) * a) 0 0, 0) := by
  unfold invR
  have e : invQ a b c d 0 0 = ((a * d - b * c) * d, -(a * d - b * c) * b, -(a * d - b * c) * c, (a * d - b * c) * a, 0, 0) := by unfold invQ; simp
  rw [if_pos ((okV_iff ..).2 ⟨⟨ha, hb, hc, hd⟩, ⟨by decide, by decide⟩, ⟨by decide, by decide⟩⟩), if_pos hu, e]
  have h1 := unit_bnd hu ha
  have h2 := unit_bnd hu hb
  have h3 := unit_bnd hu hc
  have h4 := unit_bnd hu hd
  rw [if_pos (show okV6 _ = true from (okV_iff ..).2 ⟨⟨h4.1, h2.2, h3.2, h1.1⟩, (by decide : In6 1000000 0), (by decide : In6 1000000 0)⟩)]
  rfl
end Go.Proofs.Ytmghpaibdgkbfaa
/-
  Plain law: the program's Group and Reduce answer what the document's Leading lists.
-/
namespace Go.Proofs.Ytmghpaibdgkbfaa
theorem cand_nodup : ((List.range 81).map cand).Nodup := by decide +kernel
theorem grp_nodup (l : La.Lat) : (grp l 81).Nodup := List.Pairwise.filter _ cand_nodup
theorem conj_inj {m x y : La.Mat} (hu : La.unit m) (h : conj m x = conj m y) : x = y := by
  have e : ∀ z, La.mul (La.mul (La.inv m) (conj m z)) m = z := fun z => by
    unfold conj
    rw [La.mul_assoc m z, ← La.mul_assoc (La.inv m) m, La.inv_mul hu, La.one_mul, La.mul_assoc z, La.inv_mul hu, La.mul_one]
  rw [← e x, h, e y]
theorem map_nodup {α β : Type} {f : α → β} {l : List α} (h : l.Nodup) (hf : ∀ x y, f x = f y → x = y) : (l.map f).Nodup :=
  List.pairwise_map.2 (h.imp fun hne k => hne (hf _ _ k))
theorem group_ldg {L l : La.Lat} {m : La.Mat} {ms : List La.Mat} (v : La.Val L) (ha : L.a ≤ 10000) (hc : L.c ≤ 10000) (h : La.St L l m) (r : La.Red l) (hp : ms.Perm ((grp l 81).map (conj m)))
    (ho : ∀ (i j : Nat) (x y : La.Mat), i < j → ms[i]? = some x → ms[j]? = some y → ¬ ordI y x < 0) : ms = La.ldg L L := by
  have hn : ms.Nodup := hp.nodup_iff.2 (map_nodup (grp_nodup l) (fun x y => conj_inj h.u))
  refine srt_ext (srt_of hn ho) (La.ldg_srt v L) fun x => ?_
  rw [conj_mem h r hp, La.mem_ldg v ha hc ha hc]
  exact ⟨fun e => ⟨e, La.lead_unit v.d1 e⟩, fun e => e.1⟩
theorem lst_least : ∀ (l : List La.Mat) (m x : La.Mat), x = m ∨ x ∈ l → ¬ ordI x (lst m l) < 0
  | [], m, x, h => by
    rcases h with h | h
    · subst h; exact lt_irr x
    · exact absurd h List.not_mem_nil
  | y :: r, m, x, h => by
    show ¬ ordI x (lst (if ordI y m < 0 then y else m) r) < 0
    by_cases hy : ordI y m < 0
    · rw [if_pos hy]
      rcases h with h | h
      · subst h
        intro k
        exact lst_least r y y (.inl rfl) (lt_tr hy k)
      · rcases List.mem_cons.1 h with h | h
        · exact lst_least r y x (.inl h)
        · exact lst_least r y x (.inr h)
    · rw [if_neg hy]
      rcases h with h | h
      · exact lst_least r m x (.inl h)
      · rcases List.mem_cons.1 h with h | h
        · subst h
          intro k
          have h1 := lst_least r m m (.inl rfl)
          by_cases hm : ordI m x < 0
          · exact h1 (lt_tr hm k)
          · have e := lt_tri hy hm
            rw [e] at k
            exact h1 k
        · exact lst_least r m x (.inr h)
theorem lstTo_all {l : List La.Mat} {k : Nat} (h : l.length ≤ k + 1) {x : La.Mat} (hx : x ∈ l) : ¬ ordI x (lstTo l k) < 0 := by
  cases l with
  | nil => exact absurd hx List.not_mem_nil
  | cons m r =>
    unfold lstTo
    simp only
    rw [List.take_of_length_le (by simpa using h)]
    exact lst_least r m x (List.mem_cons.1 hx)
theorem red_ldg {L l : La.Lat} {m : La.Mat} (v : La.Val L) (ha : L.a ≤ 10000) (hc : L.c ≤ 10000) (h : La.St L l m) (r : La.Red l) : (La.ldg L l)[0]? = some (redM l m) := by
  have hmem : redM l m ∈ La.ldg L l := by
    have := redM_st h
    exact (La.mem_ldg v ha hc h.ba h.bc).2 ⟨this.e, this.u⟩
  cases hl : La.ldg L l with
  | nil => rw [hl] at hmem; exact absurd hmem List.not_mem_nil
  | cons x t =>
    have hs := La.ldg_srt v l
    rw [hl] at hs hmem
    have hx : x ∈ La.ldg L l := by rw [hl]; exact List.mem_cons_self
    obtain ⟨h1, h2⟩ := (La.mem_ldg v ha hc h.ba h.bc).1 hx
    have hb := La.lead_inv h.u h.e
    have e1 : La.lead l (La.mul (La.inv m) x) = l := by rw [La.lead_mul, hb, h1]
    have hg : La.mul (La.inv m) x ∈ grp l 81 := grp_iff.2 ⟨La.keep_small r h.v.a1 h.v.d1 e1, e1⟩
    have e2 : x = La.mul m (La.mul (La.inv m) x) := by rw [← La.mul_assoc, La.mul_inv h.u, La.one_mul]
    have hin : x ∈ (grp l 81).map (La.mul m) := by rw [e2]; exact List.mem_map_of_mem hg
    have hno : ¬ ordI x (redM l m) < 0 := by
      unfold redM
      exact lstTo_all (by rw [List.length_map]; have := grp_pos l; omega) hin
    rcases List.mem_cons.1 hmem with e | e
    · rw [e]; rfl
    · exact absurd ((List.pairwise_cons.1 hs).1 _ e) hno
end Go.Proofs.Ytmghpaibdgkbfaa
/-
  Plain law: how many matrices Leading lists.
-/
namespace Go.Proofs.Ytmghpaibdgkbfaa
theorem insAll_len : ∀ (en acc : List La.Mat), (La.insAll acc en).length = acc.length + en.length
  | [], acc => rfl
  | m :: en, acc => by
    show (La.insAll (ins m acc) en).length = _
    rw [insAll_len en, ins_len, List.length_cons]; omega
theorem same_len {x y : List La.Mat} (hx : x.Nodup) (hy : y.Nodup) (h : ∀ m, m ∈ x ↔ m ∈ y) : x.length = y.length := by
  obtain ⟨a1, a2⟩ := La.insAll_srt (en := x) (acc := []) List.Pairwise.nil hx (fun _ _ => List.not_mem_nil)
  obtain ⟨b1, b2⟩ := La.insAll_srt (en := y) (acc := []) List.Pairwise.nil hy (fun _ _ => List.not_mem_nil)
  have e := srt_ext a1 b1 fun m => by
    rw [a2, b2]
    constructor
    · rintro (k | k)
      · exact absurd k List.not_mem_nil
      · exact .inr ((h m).1 k)
    · rintro (k | k)
      · exact absurd k List.not_mem_nil
      · exact .inr ((h m).2 k)
  have := congrArg List.length e
  rw [insAll_len, insAll_len] at this
  simpa using this
/-- few matrices lead from l to t -/
def Few (l t : La.Lat) : Prop := ∃ C : List La.Mat, C.length ≤ 81 ∧ C.Nodup ∧ ∀ x, x ∈ C ↔ La.lead l x = t ∧ La.unit x
theorem few_en {l t : La.Lat} (v : La.Val l) (ha : l.a ≤ 10000) (hc : l.c ≤ 10000) (ta : t.a ≤ 10000) (tc : t.c ≤ 10000) (h : Few l t) : (La.ldEn l t (La.stl l t.a 20001) (La.stl l t.c 20001)).length ≤ 81 := by
  obtain ⟨C, h1, h2, h3⟩ := h
  rw [same_len (La.en_nodup (La.stl_nodup v.a1 _ _) (La.stl_nodup v.a1 _ _)) h2 fun m => ?_]
  · exact h1
  · rw [h3, ← La.mem_ldg v ha hc ta tc]
    have := (La.insAll_srt (acc := []) List.Pairwise.nil (La.en_nodup (l := l) (tt := t) (La.stl_nodup v.a1 t.a 20001) (La.stl_nodup v.a1 t.c 20001)) (fun _ _ => List.not_mem_nil)).2 m
    unfold La.ldg
    rw [this]
    exact ⟨.inr, fun k => k.elim (fun k => absurd k List.not_mem_nil) id⟩
theorem mul_inj {m x y : La.Mat} (hu : La.unit m) (h : La.mul m x = La.mul m y) : x = y := by
  rw [← La.one_mul x, ← La.inv_mul hu, La.mul_assoc, h, ← La.mul_assoc, La.inv_mul hu, La.one_mul]
theorem few_red {L l : La.Lat} {m : La.Mat} (h : La.St L l m) (r : La.Red l) : Few L l := by
  refine ⟨(grp l 81).map (La.mul m), by rw [List.length_map]; exact grp_len l 81, map_nodup (grp_nodup l) (fun x y => mul_inj h.u), fun x => ?_⟩
  have hb := La.lead_inv h.u h.e
  rw [List.mem_map]
  constructor
  · rintro ⟨y, hy, rfl⟩
    have hk := (grp_iff.1 hy).2
    exact ⟨by rw [La.lead_mul, h.e, hk], La.unit_mul h.u (La.lead_unit h.v.d1 hk)⟩
  · rintro ⟨h1, _⟩
    have e1 : La.lead l (La.mul (La.inv m) x) = l := by rw [La.lead_mul, hb, h1]
    exact ⟨La.mul (La.inv m) x, grp_iff.2 ⟨La.keep_small r h.v.a1 h.v.d1 e1, e1⟩, by rw [← La.mul_assoc, La.mul_inv h.u, La.one_mul]⟩
theorem few_self {L l : La.Lat} {m : La.Mat} (v : La.Val L) (h : La.St L l m) (r : La.Red l) : Few L L := by
  refine ⟨(grp l 81).map (conj m), by rw [List.length_map]; exact grp_len l 81, map_nodup (grp_nodup l) (fun x y => conj_inj h.u), fun x => ?_⟩
  rw [conj_mem h r (List.Perm.refl _)]
  exact ⟨fun e => ⟨e, La.lead_unit v.d1 e⟩, fun e => e.1⟩
end Go.Proofs.Ytmghpaibdgkbfaa
/-
  Contract of chapter 6: the document's Steps.
-/
namespace Go.Proofs.Ytmghpaibdgkbfaa
open Go.RowKit
def pC (p : Int × Int) : List Value := [.int .i64 p.1, .int .i64 p.2]
def psC (l : List (Int × Int)) : List Value := l.flatMap pC
theorem psC_app (l r : List (Int × Int)) : psC (l ++ r) = psC l ++ psC r := List.flatMap_append
theorem psC_one (p : Int × Int) : psC [p] = pC p := by simp [psC]
theorem infoPt6 : (Try.prog.info? 25).map (fun i => (i.zero, i.size, i.bytes)) = some (some (.agg #[.int .i64 0, .int .i64 0]), 2, 16) := by kernel_rfl
theorem news_pt6 (w : World) (p : Int × Int) (t : TypeId) : ∀ j u, (pC p)[j]? = some u → (w.alloc (.cells #[.int .i64 p.1, .int .i64 p.2] t)).cell? ⟨w.heap.size, j, none⟩ = some u := fun j u hu => by
  rw [World.cell?_alloc_new]
  simpa [pC] using hu
theorem one_pt6 (p : Int × Int) : ∀ u ∈ pC p, u.oneCell' = true := fun u hu => by
  simp [pC] at hu
  rcases hu with rfl | rfl <;> rfl
theorem app_own {w : World} {base m : Nat} {e : TypeId} {v : Value} {l : List (Int × Int)} {x : Int × Int} (h : w.ownsRow base e 2 v (m + 1) (psC l ++ pC x)) : Hid (w.ownsRow base e 2 v (m + 1) (psC (l ++ [x]))) := by
  show World.ownsRow _ _ _ _ _ _ _
  rw [psC_app, psC_one]; exact h
theorem app_len {m : Nat} {l : List (Int × Int)} {x : Int × Int} (h : m = l.length) : Hid (m + 1 = (l ++ [x]).length) := by
  show _ = _
  rw [List.length_append, h]; rfl
theorem tdiv_in {u a M : Int} (ha : 1 ≤ a) (h : -M ≤ u ∧ u ≤ M) : -M ≤ u.tdiv a ∧ u.tdiv a ≤ M := by
  rcases Int.lt_or_le u 0 with h0 | h0
  · have := (tdiv_neg h0 (show 0 < a by omega)).2
    omega
  · rw [Int.tdiv_eq_ediv_of_nonneg h0]
    have h1 := Int.ediv_le_self a h0
    have h2 := Int.ediv_nonneg h0 (show 0 ≤ a by omega)
    omega
theorem ld_in {l : La.Lat} (v : La.Val l) (ha : l.a ≤ 10000) (hc : l.c ≤ 10000) : 1 ≤ La.ld l ∧ La.ld l ≤ 100000000 := by
  refine ⟨v.d1, ?_⟩
  have h1 := mb 10000 10000 100000000 (show -10000 ≤ l.a ∧ l.a ≤ 10000 from ⟨by have := v.a1; omega, ha⟩) (show -10000 ≤ l.c ∧ l.c ≤ 10000 from ⟨by have := v.c1; omega, hc⟩) (by decide)
  have h2 := La.sq_nn l.b
  unfold La.ld
  omega
set_option maxRecDepth 100000 in
set_option maxHeartbeats 8000000 in
theorem stepsC6 (a b c n : Int) (w : World) (h : okL a b c = true) (hn : 1 ≤ n ∧ n ≤ 10000) : Calls Try.prog 89 #[vL a b c, .int .i64 n] w fun e w' => (∃ (A : Option Addr) (cp : Nat), e = .returned (.slice A (La.stl ⟨a, b, c⟩ n 20001).length cp) ∧ w'.ownsRow w.heap.size 25 2 (.slice A (La.stl ⟨a, b, c⟩ n 20001).length cp) (La.stl ⟨a, b, c⟩ n 20001).length (psC (La.stl ⟨a, b, c⟩ n 20001))) ∧ Below w.heap.size w w' := by
  obtain ⟨hv, hA, hC⟩ := okL_val h
  obtain ⟨l1, l2⟩ := ld_in hv hA hC
  have hb := hv.b_lt hA hC
  have ha1 : 1 ≤ a := hv.a1
  have hA : a ≤ 10000 := hA
  have hcc : 1 ≤ c ∧ c ≤ 10000 := ⟨hv.c1, hC⟩
  have hb : -10000 ≤ b ∧ b ≤ 10000 := hb
  have CD := Lib.hid (fun W => detC a b c W ⟨by omega, by omega⟩ hb ⟨by omega, by omega⟩)
  obtain ⟨E, hE⟩ : ∃ E, E = a * c - b * b := ⟨_, rfl⟩
  have hdY : ∀ y, La.dY ⟨a, b, c⟩ n y = a * n - E * y * y := fun y => by rw [hE]; rfl
  have l1 : 1 ≤ E := by rw [hE]; exact l1
  have l2 : E ≤ 100000000 := by rw [hE]; exact l2
  rw [← hE] at CD
  have HB := Lib.hid (show (1 ≤ a ∧ a ≤ 10000) ∧ (-10000 ≤ b ∧ b ≤ 10000) ∧ (1 ≤ E ∧ E ≤ 100000000) from ⟨⟨ha1, hA⟩, hb, l1, l2⟩)
  have HDY := Lib.hid hdY
  have ha0 : a ≠ 0 := by omega
  have G0 : Hid (Has (w.alloc (.cells #[.int .i64 a, .int .i64 b, .int .i64 c] 23)) w.heap.size 23 [.int .i64 a, .int .i64 b, .int .i64 c]) := Has.new rfl
  have B0 : Hid (Below w.heap.size w (w.alloc (.cells #[.int .i64 a, .int .i64 b, .int .i64 c] 23))) := (Below.refl _ _).alloc (Nat.le_refl _) _
  have HNn := Lib.hid hn
  clear h hv hA hC l1 l2 hb ha1 hcc hE hdY hn
  go_enter Try.func89, Try.ntmps89
  go_wp2
  go_loopw [5, 6] (fun v i wr => ∃ (k m : Nat) (A : Option Addr) (cp : Nat), k ≤ 20001 ∧ i = .int .i64 ((k : Int) - 10000) ∧ v = .slice A m cp ∧ Hid (m = (La.stl ⟨a, b, c⟩ n k).length) ∧ Hid (wr.ownsRow w.heap.size 25 2 v m (psC (La.stl ⟨a, b, c⟩ n k))) ∧ Hid (Has wr w.heap.size 23 [.int .i64 a, .int .i64 b, .int .i64 c]) ∧ Hid (Below w.heap.size w wr)) (fun _ i _ => (10001 - intOf i).toNat)
  case atStart => exact ⟨0, 0, none, 0, by omega, rfl, rfl, Lib.hid rfl, Lib.hid (World.ownsRow_nil _ _ _ _), G0, B0⟩
  case round =>
    clear G0 B0
    obtain ⟨k, m, A, cp, hk, rfl, rfl, HL, HO, G0, B⟩ := hrel
    obtain ⟨wo, rfl⟩ : ∃ wo : World, wo = wr := ⟨_, rfl⟩
    have hmk : m ≤ 40002 := by have := HL.out; have := La.stl_len ⟨a, b, c⟩ n k; omega
    have HSU := Lib.hid (La.stl_succ ⟨a, b, c⟩ n k)
    have HI : Hid ((k : Int) - 10000 + 1 = ((k + 1 : Nat) : Int) - 10000) := by show _ = _; omega
    obtain ⟨y, hy⟩ : ∃ y, y = (k : Int) - 10000 := ⟨_, rfl⟩
    rw [← hy] at HSU HI ⊢
    by_cases hlt : k < 20001
    · have jk : y ≤ 10000 := by omega
      have iy : IntKind.i64.wrap (y + 1) = y + 1 := IntWalk.i64_in _ (by omega)
      have HK : Hid (k + 1 ≤ 20001) := by show _ ≤ _; omega
      have HMS : Hid ((10001 - intOf (.int .i64 (y + 1))).toNat < (10001 - intOf (.int .i64 y)).toNat) := by show _ < _; simp only [intOf]; omega
      have hyb : -10000 ≤ y ∧ y ≤ 10000 := by omega
      obtain ⟨⟨ha1, ha2⟩, hb, hE1, hE2⟩ := HB.out
      have hn := HNn.out
      have e1 := mb 10000 10000 100000000 (show -10000 ≤ a ∧ a ≤ 10000 by omega) (show -10000 ≤ n ∧ n ≤ 10000 by omega) (by decide)
      have e2 := mb 100000000 10000 1000000000000 (show -100000000 ≤ E ∧ E ≤ 100000000 by omega) hyb (by decide)
      have e3 := mb 1000000000000 10000 10000000000000000 e2 hyb (by decide)
      have e4 := mb 10000 10000 100000000 hb hyb (by decide)
      have e5 := Int.mul_nonneg (show 0 ≤ E by omega) (La.sq_nn y)
      rw [← Int.mul_assoc] at e5
      have i1 : IntKind.i64.wrap (a * n) = a * n := IntWalk.i64_in _ (by omega)
      have i2 : IntKind.i64.wrap (E * y) = E * y := IntWalk.i64_in _ (by omega)
      have i3 : IntKind.i64.wrap (E * y * y) = E * y * y := IntWalk.i64_in _ (by omega)
      have i4 : IntKind.i64.wrap (a * n - E * y * y) = a * n - E * y * y := IntWalk.i64_in _ (by omega)
      have HD := Lib.hid (HDY.out y)
      have HDM : Hid (a * n - E * y * y ≤ 100000000) := by show _ ≤ _; omega
      have HE4 := Lib.hid e4
      clear hy hk hlt e1 e2 e3 e4 e5 ha1 ha2 hb hE1 hE2 hn
      have c0 : wo.cell? ⟨w.heap.size, 0, none⟩ = some (.int .i64 a) := G0.out.cell 0
      have c1 : wo.cell? ⟨w.heap.size, 1, none⟩ = some (.int .i64 b) := G0.out.cell 1
      have c2 : wo.cell? ⟨w.heap.size, 2, none⟩ = some (.int .i64 c) := G0.out.cell 2
      have q0 := G0.out.lt
      have hxc := fun (x : Ext wo) => x.cell
      go_upto_region 5 with (fail)
      refine wp_region_ext (by kernel_rfl) (by kernel_rfl) ?_
      repeat (go_big_quiet_step ((go_at_call 54; exact ext_call (CD.out _))))
      refine wpQuiet_nil ?_
      intro w2 hw'
      have hb2 := ext_below hw'
      clear hw' hxc c0 c1 c2 q0 i1 i2 i3 i4
      replace G0 := Lib.hid (G0.out.below hb2 G0.out.lt)
      replace HO := Lib.hid (own_below HO.out hb2)
      replace B := Lib.hid (bvia B.out hb2)
      clear hb2
      generalize a * n - E * y * y = d at *
      by_cases hneg : d < 0
      · have hsY : La.stY ⟨a, b, c⟩ n y = [] := by unfold La.stY; rw [HD.out, if_pos hneg]
        have HZ : Hid (La.stl ⟨a, b, c⟩ n (k + 1) = La.stl ⟨a, b, c⟩ n k) := by show _ = _; rw [HSU.out, hsY, List.append_nil]
        clear hsY HSU HD HDM
        go_wp2
        exact ⟨⟨k + 1, m, A, cp, HK.out, by rw [HI.out], rfl, by show _ = _; rw [HZ.out]; exact HL.out, by show World.ownsRow _ _ _ _ _ _ _; rw [HZ.out]; exact HO.out, G0, B⟩, HMS.out⟩
      · have CR := Lib.hid (fun W => rootC d W ⟨by omega, HDM.out⟩)
        go_wp2_with fail
        refine (CR.out _).mono ?_
        rintro e w3 ⟨⟨s, s0, s1, s2, s3, rfl⟩, rfl⟩
        clear CR
        have hrt := rt_eq s0 s2 s3
        have ss := mb 10000 10000 100000000 (show -10000 ≤ s ∧ s ≤ 10000 by omega) (show -10000 ≤ s ∧ s ≤ 10000 by omega) (by decide)
        have i5 : IntKind.i64.wrap (s * s) = s * s := IntWalk.i64_in _ (by omega)
        by_cases hsq : s * s = d
        case neg =>
          have k1 : (s * s != d) = true := bne_iff_ne.2 hsq
          have hsY : La.stY ⟨a, b, c⟩ n y = [] := by unfold La.stY; rw [HD.out, if_neg (show ¬ d < 0 by omega), hrt, if_pos hsq]
          have HZ : Hid (La.stl ⟨a, b, c⟩ n (k + 1) = La.stl ⟨a, b, c⟩ n k) := by show _ = _; rw [HSU.out, hsY, List.append_nil]
          clear hsY hrt ss s0 s1 s2 s3 hsq hneg HSU HD HDM
          go_wp2
          exact ⟨⟨k + 1, m, A, cp, HK.out, by rw [HI.out], rfl, by show _ = _; rw [HZ.out]; exact HL.out, by show World.ownsRow _ _ _ _ _ _ _; rw [HZ.out]; exact HO.out, G0, B⟩, HMS.out⟩
        have k1 : (s * s != d) = false := by rw [hsq]; simp
        have hsY : La.stY ⟨a, b, c⟩ n y = (if (s - b * y).tmod a = 0 then [((s - b * y).tdiv a, y)] else []) ++ (if 0 < s ∧ (s + b * y).tmod a = 0 then [((-(s + b * y)).tdiv a, y)] else []) := by
          unfold La.stY; rw [HD.out, if_neg (show ¬ d < 0 by omega), hrt, if_neg (fun h => h hsq)]
        have e4 := HE4.out
        have ha1 := HB.out.1.1
        obtain ⟨P, hP⟩ : ∃ P, P = s + b * y := ⟨_, rfl⟩
        rw [← hP] at hsY
        obtain ⟨N, hN⟩ : ∃ N, N = -P := ⟨_, rfl⟩
        rw [← hN] at hsY
        have HSY := Lib.hid hsY
        have g1 := tdiv_in (u := s - b * y) (M := 200000000) ha1 ⟨by omega, by omega⟩
        have g2 := tdiv_in (u := N) (M := 200000000) ha1 ⟨by omega, by omega⟩
        have i6 : IntKind.i64.wrap (b * y) = b * y := IntWalk.i64_in _ (by omega)
        have i7 : IntKind.i64.wrap (s - b * y) = s - b * y := IntWalk.i64_in _ (by omega)
        have i8 : IntKind.i64.wrap (s + b * y) = P := by rw [hP]; exact IntWalk.i64_in _ (by omega)
        have i9 : IntKind.i64.wrap (-P) = N := by rw [hN]; exact IntWalk.i64_in _ (by omega)
        have g3 := tmod_in (s - b * y) (show (0 : Int) < a by omega)
        have g4 := tmod_in P (show (0 : Int) < a by omega)
        have ha2 := HB.out.1.2
        have i12 : IntKind.i64.wrap ((s - b * y).tmod a) = (s - b * y).tmod a := IntWalk.i64_in _ (by omega)
        have i13 : IntKind.i64.wrap (P.tmod a) = P.tmod a := IntWalk.i64_in _ (by omega)
        have i10 : IntKind.i64.wrap ((s - b * y).tdiv a) = (s - b * y).tdiv a := IntWalk.i64_in _ (by omega)
        have i11 : IntKind.i64.wrap (N.tdiv a) = N.tdiv a := IntWalk.i64_in _ (by omega)
        obtain ⟨X1, hX1⟩ : ∃ X, X = (s - b * y).tdiv a := ⟨_, rfl⟩
        rw [← hX1] at HSY
        obtain ⟨X2, hX2⟩ : ∃ X, X = N.tdiv a := ⟨_, rfl⟩
        rw [← hX2] at HSY
        rw [← hX1] at i10
        rw [← hX2] at i11
        have i10 : IntKind.i64.wrap ((s - b * y).tdiv a) = X1 := by rw [← hX1]; exact i10
        have i11 : IntKind.i64.wrap (N.tdiv a) = X2 := by rw [← hX2]; exact i11
        clear hP hN hX1 hX2
        clear hsY hrt ss s1 s2 s3 hsq hneg HD HDM HDY e4 ha1 ha2 g1 g2 g3 g4 HE4
        have c0 : w2.cell? ⟨w.heap.size, 0, none⟩ = some (.int .i64 a) := G0.out.cell 0
        have c1 : w2.cell? ⟨w.heap.size, 1, none⟩ = some (.int .i64 b) := G0.out.cell 1
        by_cases hm1 : (s - b * y).tmod a = 0
        case neg =>
          have kn : ((s - b * y).tmod a == 0) = false := beq_eq_false_iff_ne.2 hm1
          by_cases hs : 0 < s
          case neg =>
            have HZ : Hid (La.stl ⟨a, b, c⟩ n (k + 1) = La.stl ⟨a, b, c⟩ n k) := by show _ = _; rw [HSU.out, HSY.out, if_neg hm1, if_neg (fun h => hs h.1)]; simp
            have kz : decide (0 < s) = false := decide_eq_false hs
            clear HSU HSY
            go_wp2
            exact ⟨⟨k + 1, m, A, cp, HK.out, by rw [HI.out], rfl, by show _ = _; rw [HZ.out]; exact HL.out, by show World.ownsRow _ _ _ _ _ _ _; rw [HZ.out]; exact HO.out, G0, B⟩, HMS.out⟩
          have ks : decide (0 < s) = true := decide_eq_true hs
          by_cases hm2 : P.tmod a = 0
          case neg =>
            have HZ : Hid (La.stl ⟨a, b, c⟩ n (k + 1) = La.stl ⟨a, b, c⟩ n k) := by show _ = _; rw [HSU.out, HSY.out, if_neg hm1, if_neg (fun h => hm2 h.2)]; simp
            have km : (P.tmod a == 0) = false := beq_eq_false_iff_ne.2 hm2
            clear HSU HSY
            go_wp2
            exact ⟨⟨k + 1, m, A, cp, HK.out, by rw [HI.out], rfl, by show _ = _; rw [HZ.out]; exact HL.out, by show World.ownsRow _ _ _ _ _ _ _; rw [HZ.out]; exact HO.out, G0, B⟩, HMS.out⟩
          have km : (P.tmod a == 0) = true := beq_iff_eq.2 hm2
          have HZ : Hid (La.stl ⟨a, b, c⟩ n (k + 1) = La.stl ⟨a, b, c⟩ n k ++ [(X2, y)]) := by show _ = _; rw [HSU.out, HSY.out, if_neg hm1, if_pos ⟨hs, hm2⟩]; simp
          clear HSU HSY
          go_wp2_with (at_builtin; refine wpList_app rfl (.tmp 71) (.tmp 84) _ rfl w.heap.size 25 (.agg #[.int .i64 0, .int .i64 0]) 2 16 Try.underlying73 infoPt6 rfl (by omega) (by omega) (.slice A m cp) _ _ rfl (HO.out.alloc _) w2.heap.size (pC (X2, y)) rfl rfl (news_pt6 _ (X2, y) _) (one_pt6 _) (by omega) (by have := B.out.size; simp; omega) ?_; intro g5 cap5 w5 hg5 hown5 hgrow5 hor5; have hsz5 := B.out.size; have hne5 : (Value.slice A m cp).ownBlock ≠ some w.heap.size := G0.out.ne_own HO.out (by decide); have G5 := Lib.hid ((G0.out.alloc (.cells #[.int .i64 ((X2, y)).1, .int .i64 ((X2, y)).2] 25)).same (hgrow5.block _ (by have := G0.out.lt; simp; omega) (fun e => hne5 e.symm))); have B5 := Lib.hid ((B.out.alloc hsz5 (.cells #[.int .i64 ((X2, y)).1, .int .i64 ((X2, y)).2] 25)).grown hgrow5 (by simp; omega) (fun k hk => (HO.out.lt k hk).1)); have O5 : Hid (w5.ownsRow w.heap.size 25 2 (.slice (some ⟨g5, 0, none⟩) (m + 1) cap5) (m + 1) (psC (La.stl ⟨a, b, c⟩ n k ++ [(X2, y)]))) := app_own hown5; have L5 : Hid (m + 1 = (La.stl ⟨a, b, c⟩ n k ++ [(X2, y)]).length) := app_len HL.out; clear hg5 hown5 hgrow5 hor5 hsz5 hne5)
          exact ⟨⟨k + 1, m + 1, some ⟨g5, 0, none⟩, cap5, HK.out, by rw [HI.out], rfl, by show _ = _; rw [HZ.out]; exact L5.out, by show World.ownsRow _ _ _ _ _ _ _; rw [HZ.out]; exact O5.out, G5, B5⟩, HMS.out⟩
        have kn : ((s - b * y).tmod a == 0) = true := beq_iff_eq.2 hm1
        by_cases hs : 0 < s
        case neg =>
          have HZ : Hid (La.stl ⟨a, b, c⟩ n (k + 1) = (La.stl ⟨a, b, c⟩ n k ++ [(X1, y)])) := by show _ = _; rw [HSU.out, HSY.out, if_pos hm1, if_neg (fun h => hs h.1)]; simp
          have kz : decide (0 < s) = false := decide_eq_false hs
          clear HSU HSY
          go_wp2_with (at_builtin; refine wpList_app rfl (.tmp 43) (.tmp 55) _ rfl w.heap.size 25 (.agg #[.int .i64 0, .int .i64 0]) 2 16 Try.underlying73 infoPt6 rfl (by omega) (by omega) (.slice A m cp) _ _ rfl (HO.out.alloc _) w2.heap.size (pC (X1, y)) rfl rfl (news_pt6 _ (X1, y) _) (one_pt6 _) (by omega) (by have := B.out.size; simp; omega) ?_; intro g4 cap4 w4 hg4 hown4 hgrow4 hor4; have hsz4 := B.out.size; have hne4 : (Value.slice A m cp).ownBlock ≠ some w.heap.size := G0.out.ne_own HO.out (by decide); have G4 := Lib.hid ((G0.out.alloc (.cells #[.int .i64 ((X1, y)).1, .int .i64 ((X1, y)).2] 25)).same (hgrow4.block _ (by have := G0.out.lt; simp; omega) (fun e => hne4 e.symm))); have B4 := Lib.hid ((B.out.alloc hsz4 (.cells #[.int .i64 ((X1, y)).1, .int .i64 ((X1, y)).2] 25)).grown hgrow4 (by simp; omega) (fun k hk => (HO.out.lt k hk).1)); have O4 : Hid (w4.ownsRow w.heap.size 25 2 (.slice (some ⟨g4, 0, none⟩) (m + 1) cap4) (m + 1) (psC (La.stl ⟨a, b, c⟩ n k ++ [(X1, y)]))) := app_own hown4; have L4 : Hid (m + 1 = (La.stl ⟨a, b, c⟩ n k ++ [(X1, y)]).length) := app_len HL.out; have d40 : w4.cell? ⟨w.heap.size, 0, none⟩ = some (.int .i64 a) := G4.out.cell 0; have d41 : w4.cell? ⟨w.heap.size, 1, none⟩ = some (.int .i64 b) := G4.out.cell 1; clear hg4 hown4 hgrow4 hor4 hsz4 hne4)
          exact ⟨⟨k + 1, (m + 1), (some ⟨g4, 0, none⟩), cap4, HK.out, by rw [HI.out], rfl, by show _ = _; rw [HZ.out]; exact L4.out, by show World.ownsRow _ _ _ _ _ _ _; rw [HZ.out]; exact O4.out, G4, B4⟩, HMS.out⟩
        have ks : decide (0 < s) = true := decide_eq_true hs
        by_cases hm2 : P.tmod a = 0
        case neg =>
          have HZ : Hid (La.stl ⟨a, b, c⟩ n (k + 1) = (La.stl ⟨a, b, c⟩ n k ++ [(X1, y)])) := by show _ = _; rw [HSU.out, HSY.out, if_pos hm1, if_neg (fun h => hm2 h.2)]; simp
          have km : (P.tmod a == 0) = false := beq_eq_false_iff_ne.2 hm2
          clear HSU HSY
          go_wp2_with (at_builtin; refine wpList_app rfl (.tmp 43) (.tmp 55) _ rfl w.heap.size 25 (.agg #[.int .i64 0, .int .i64 0]) 2 16 Try.underlying73 infoPt6 rfl (by omega) (by omega) (.slice A m cp) _ _ rfl (HO.out.alloc _) w2.heap.size (pC (X1, y)) rfl rfl (news_pt6 _ (X1, y) _) (one_pt6 _) (by omega) (by have := B.out.size; simp; omega) ?_; intro g4 cap4 w4 hg4 hown4 hgrow4 hor4; have hsz4 := B.out.size; have hne4 : (Value.slice A m cp).ownBlock ≠ some w.heap.size := G0.out.ne_own HO.out (by decide); have G4 := Lib.hid ((G0.out.alloc (.cells #[.int .i64 ((X1, y)).1, .int .i64 ((X1, y)).2] 25)).same (hgrow4.block _ (by have := G0.out.lt; simp; omega) (fun e => hne4 e.symm))); have B4 := Lib.hid ((B.out.alloc hsz4 (.cells #[.int .i64 ((X1, y)).1, .int .i64 ((X1, y)).2] 25)).grown hgrow4 (by simp; omega) (fun k hk => (HO.out.lt k hk).1)); have O4 : Hid (w4.ownsRow w.heap.size 25 2 (.slice (some ⟨g4, 0, none⟩) (m + 1) cap4) (m + 1) (psC (La.stl ⟨a, b, c⟩ n k ++ [(X1, y)]))) := app_own hown4; have L4 : Hid (m + 1 = (La.stl ⟨a, b, c⟩ n k ++ [(X1, y)]).length) := app_len HL.out; have d40 : w4.cell? ⟨w.heap.size, 0, none⟩ = some (.int .i64 a) := G4.out.cell 0; have d41 : w4.cell? ⟨w.heap.size, 1, none⟩ = some (.int .i64 b) := G4.out.cell 1; clear hg4 hown4 hgrow4 hor4 hsz4 hne4)
          exact ⟨⟨k + 1, (m + 1), (some ⟨g4, 0, none⟩), cap4, HK.out, by rw [HI.out], rfl, by show _ = _; rw [HZ.out]; exact L4.out, by show World.ownsRow _ _ _ _ _ _ _; rw [HZ.out]; exact O4.out, G4, B4⟩, HMS.out⟩
        have km : (P.tmod a == 0) = true := beq_iff_eq.2 hm2
        have HZ : Hid (La.stl ⟨a, b, c⟩ n (k + 1) = (La.stl ⟨a, b, c⟩ n k ++ [(X1, y)]) ++ [(X2, y)]) := by show _ = _; rw [HSU.out, HSY.out, if_pos hm1, if_pos ⟨hs, hm2⟩]; simp
        clear HSU HSY
        go_wp2_with (first | (at_builtin; refine wpList_app rfl (.tmp 43) (.tmp 55) _ rfl w.heap.size 25 (.agg #[.int .i64 0, .int .i64 0]) 2 16 Try.underlying73 infoPt6 rfl (by omega) (by omega) (.slice A m cp) _ _ rfl (HO.out.alloc _) w2.heap.size (pC (X1, y)) rfl rfl (news_pt6 _ (X1, y) _) (one_pt6 _) (by omega) (by have := B.out.size; simp; omega) ?_; intro g4 cap4 w4 hg4 hown4 hgrow4 hor4; have hsz4 := B.out.size; have hne4 : (Value.slice A m cp).ownBlock ≠ some w.heap.size := G0.out.ne_own HO.out (by decide); have G4 := Lib.hid ((G0.out.alloc (.cells #[.int .i64 ((X1, y)).1, .int .i64 ((X1, y)).2] 25)).same (hgrow4.block _ (by have := G0.out.lt; simp; omega) (fun e => hne4 e.symm))); have B4 := Lib.hid ((B.out.alloc hsz4 (.cells #[.int .i64 ((X1, y)).1, .int .i64 ((X1, y)).2] 25)).grown hgrow4 (by simp; omega) (fun k hk => (HO.out.lt k hk).1)); have O4 : Hid (w4.ownsRow w.heap.size 25 2 (.slice (some ⟨g4, 0, none⟩) (m + 1) cap4) (m + 1) (psC (La.stl ⟨a, b, c⟩ n k ++ [(X1, y)]))) := app_own hown4; have L4 : Hid (m + 1 = (La.stl ⟨a, b, c⟩ n k ++ [(X1, y)]).length) := app_len HL.out; have d40 : w4.cell? ⟨w.heap.size, 0, none⟩ = some (.int .i64 a) := G4.out.cell 0; have d41 : w4.cell? ⟨w.heap.size, 1, none⟩ = some (.int .i64 b) := G4.out.cell 1; clear hg4 hown4 hgrow4 hor4 hsz4 hne4) | (at_builtin; refine wpList_app rfl (.tmp 71) (.tmp 84) _ rfl w.heap.size 25 (.agg #[.int .i64 0, .int .i64 0]) 2 16 Try.underlying73 infoPt6 rfl (by omega) (by omega) (.slice (some ⟨g4, 0, none⟩) (m + 1) cap4) _ _ rfl (O4.out.alloc _) w4.heap.size (pC (X2, y)) rfl rfl (news_pt6 _ (X2, y) _) (one_pt6 _) (by omega) (by have := B4.out.size; simp; omega) ?_; intro g5 cap5 w5 hg5 hown5 hgrow5 hor5; have hsz5 := B4.out.size; have hne5 : (Value.slice (some ⟨g4, 0, none⟩) (m + 1) cap4).ownBlock ≠ some w.heap.size := G4.out.ne_own O4.out (by decide); have G5 := Lib.hid ((G4.out.alloc (.cells #[.int .i64 ((X2, y)).1, .int .i64 ((X2, y)).2] 25)).same (hgrow5.block _ (by have := G4.out.lt; simp; omega) (fun e => hne5 e.symm))); have B5 := Lib.hid ((B4.out.alloc hsz5 (.cells #[.int .i64 ((X2, y)).1, .int .i64 ((X2, y)).2] 25)).grown hgrow5 (by simp; omega) (fun k hk => (O4.out.lt k hk).1)); have O5 : Hid (w5.ownsRow w.heap.size 25 2 (.slice (some ⟨g5, 0, none⟩) ((m + 1) + 1) cap5) ((m + 1) + 1) (psC ((La.stl ⟨a, b, c⟩ n k ++ [(X1, y)]) ++ [(X2, y)]))) := app_own hown5; have L5 : Hid ((m + 1) + 1 = ((La.stl ⟨a, b, c⟩ n k ++ [(X1, y)]) ++ [(X2, y)]).length) := app_len L4.out; clear hg5 hown5 hgrow5 hor5 hsz5 hne5))
        exact ⟨⟨k + 1, (m + 1) + 1, some ⟨g5, 0, none⟩, cap5, HK.out, by rw [HI.out], rfl, by show _ = _; rw [HZ.out]; exact L5.out, by show World.ownsRow _ _ _ _ _ _ _; rw [HZ.out]; exact O5.out, G5, B5⟩, HMS.out⟩
    · obtain rfl : k = 20001 := by omega
      have jk : ¬ y ≤ 10000 := by omega
      go_wp2
      go_ret
      have hL := HL.out
      refine ⟨⟨A, cp, ?_, ?_⟩, B.out⟩
      · rw [← hL]; rfl
      · rw [← hL]; exact HO.out
end Go.Proofs.Ytmghpaibdgkbfaa
/-
  Append of a whole slice of matrices to a row of the call's own.
-/
namespace Go.Proofs.Ytmghpaibdgkbfaa
open Go.RowKit
theorem msC_inv : ∀ {l : List La.Mat} {j : Nat} {u : Value}, (msC l)[j]? = some u → ∃ (k r : Nat) (m : La.Mat), j = k * 4 + r ∧ r < 4 ∧ l[k]? = some m ∧ (mC m)[r]? = some u
  | [], j, u, h => by simp [msC] at h
  | x :: l, j, u, h => by
    have e : msC (x :: l) = mC x ++ msC l := by simp [msC]
    rw [e] at h
    rcases Nat.lt_or_ge j 4 with hj | hj
    · rw [List.getElem?_append_left (by rw [mC_len]; exact hj)] at h
      exact ⟨0, j, x, by omega, hj, rfl, h⟩
    · rw [List.getElem?_append_right (by rw [mC_len]; exact hj), mC_len] at h
      obtain ⟨k, r, m, h1, h2, h3, h4⟩ := msC_inv h
      exact ⟨k + 1, r, m, by omega, h2, h3, h4⟩
theorem rdM_news {w : World} {B b o : Nat} {ds : List La.Mat} (h : RdM4 w B (some ⟨b, o, none⟩) ds) : ∀ j u, (msC ds)[j]? = some u → w.cell? ((⟨b, o, none⟩ : Addr).add j) = some u := fun j u hu => by
  obtain ⟨k, r, m, rfl, hr, hk, hm⟩ := msC_inv hu
  obtain ⟨b', o', e, _, c0, c1, c2, c3⟩ := h k m hk
  injection e with e; injection e with e1 e2
  subst e1 e2
  have ha : (⟨b, o, none⟩ : Addr).add (k * 4 + r) = ⟨b, o + k * 4 + r, none⟩ := by
    unfold Addr.add; split <;> simp_all [Nat.add_assoc]
  rw [ha]
  rcases (show r = 0 ∨ r = 1 ∨ r = 2 ∨ r = 3 by omega) with rfl | rfl | rfl | rfl
  · rw [← hm]; exact c0
  · rw [← hm]; exact c1
  · rw [← hm]; exact c2
  · rw [← hm]; exact c3
theorem one_mats (ds : List La.Mat) : ∀ u ∈ msC ds, u.oneCell' = true := fun u hu => by
  obtain ⟨m, _, h⟩ := List.mem_flatMap.1 hu
  exact one_mat m u h
theorem run_app0m {P : Program} (w : World) (t ty e : TypeId) (i : TypeInfo) (ht : P.underlying t = some (.slice e)) (hi : P.info? e = some i) (B : Option Addr) (n d c : Nat) (h : n ≤ d) :
    (Builtin.append_ #[t, t] ty #[.slice B n d, .slice none 0 c]).run P w = .ok (.slice B n d) w := by
  cases B <;> simp [Builtin.append_, run_underlying ht, sizeOf, typeInfo, hi, Builtin.lenOf, Builtin.firstCells, h, storeCells]
theorem wpList_appD {w : World} {ops : Array Oper} {rest : List Oper} {o : Oper} {a : Act} {Q : Exit → Act → World → Prop} (hgd : o.guard = none) (s x : Operand)
    (ho : o.op = .call { callee := .builtin .append, args := #[s, x], argTypes := #[51, 51] })
    (base : Nat) (v : Value) (n : Nat) (xs : List La.Mat) (hs : a.eval s = v) (hown : w.ownsRow base 40 4 v n (msC xs))
    (A : Option Addr) (m c : Nat) (ds : List La.Mat) (hx : a.eval x = .slice A m c) (hr : RdM4 w w.heap.size A ds) (hl : ds.length = m)
    (hn : n + m ≤ 1000000000) (hbase : base ≤ w.heap.size)
    (h : ∀ A' c' w', w'.ownsRow base 40 4 (.slice A' (n + m) c') (n + m) (msC (xs ++ ds)) → w.grownBy w' v.ownBlock → wpList Try.prog ops Q rest (a.put o.dst (.slice A' (n + m) c')) w') :
    wpList Try.prog ops Q (o :: rest) a w := by
  refine wpList_plain hgd fun K hK => ?_
  cases A with
  | none =>
    have hw0 : ds = [] := by
      cases ds with
      | nil => rfl
      | cons y ws => obtain ⟨b, o', e, _⟩ := hr 0 y rfl; cases e
    subst hw0
    obtain rfl : 0 = m := hl
    obtain ⟨B, d, rfl⟩ := own_form hown
    obtain ⟨i, hi, hz, hsize, hb⟩ := info_parts infoMat
    have hcc := own_caps hown
    have hrun := run_app0m (P := Try.prog) w 51 o.type 40 i Try.underlying51 hi B n d c hcc.1
    unfold Oper.wp execOp
    simp only [ho, resolve, invoke, builtin, Sem.run_bind, Sem.run_pure, Result.andThen_ok, List.map_toArray, List.map_cons, List.map_nil, hs, hx, hrun]
    exact hK _ _ (h B d w (by rw [List.append_nil]; exact hown) ⟨rfl, rfl, rfl, Nat.le_refl _, fun _ _ _ => rfl⟩)
  | some ad =>
    refine wp_appN s x 51 ho base 40 (.agg #[.int .i64 0, .int .i64 0, .int .i64 0, .int .i64 0]) 4 32 Try.underlying51 infoMat rfl (by omega) (by omega) v n (msC xs) hs hown ad m c (msC ds) hx (by rw [msC_len, hl]) ?_ (one_mats ds) hn hbase ?_
    · cases ds with
      | nil => intro j u hu; simp [msC] at hu
      | cons y ws =>
        obtain ⟨b, o', e, _⟩ := hr 0 y rfl
        injection e with e
        subst e
        exact rdM_news hr
    · intro v' w' hown' hgrow' _ _
      obtain ⟨A', c', rfl⟩ := own_form hown'
      exact hK _ _ (h A' c' w' (by rw [msC_app]; exact hown') hgrow')
end Go.Proofs.Ytmghpaibdgkbfaa
/-
  Plain law of Leading: the part of the matrices that its two loops have met.
-/
namespace Go.Proofs.Ytmghpaibdgkbfaa
open Go.RowKit
namespace La
noncomputable def curL (l tt : Lat) (ps qs : List (Int × Int)) (i k : Nat) : List Mat :=
  ldEn l tt (ps.take i) qs ++ (match ps[i]? with | some p => (qs.take k).flatMap (ldOne l tt p) | none => [])
theorem ldEn_app (l tt : Lat) (x y qs : List (Int × Int)) : ldEn l tt (x ++ y) qs = ldEn l tt x qs ++ ldEn l tt y qs := List.flatMap_append
theorem curL_zero (l tt : Lat) (ps qs : List (Int × Int)) (i : Nat) : curL l tt ps qs i 0 = ldEn l tt (ps.take i) qs := by
  unfold curL; cases ps[i]? <;> simp
theorem curL_next {l tt : Lat} {ps qs : List (Int × Int)} {i k : Nat} {p : Int × Int} (hp : ps[i]? = some p) (hk : qs.length ≤ k) : curL l tt ps qs i k = curL l tt ps qs (i + 1) 0 := by
  rw [curL_zero]
  unfold curL
  rw [hp, List.take_of_length_le hk, List.take_add_one, hp, Option.toList_some, ldEn_app]
  simp [ldEn]
theorem curL_step {l tt : Lat} {ps qs : List (Int × Int)} {i k : Nat} {p q : Int × Int} (hp : ps[i]? = some p) (hq : qs[k]? = some q) : curL l tt ps qs i (k + 1) = curL l tt ps qs i k ++ ldOne l tt p q := by
  unfold curL
  rw [hp]
  simp only []
  rw [List.take_add_one, hq, Option.toList_some, List.flatMap_append, List.append_assoc]
  simp
theorem curL_len (l tt : Lat) (ps qs : List (Int × Int)) (i k : Nat) : (curL l tt ps qs i k).length ≤ (ldEn l tt ps qs).length := by
  have e := congrArg List.length (show ldEn l tt ps qs = ldEn l tt (ps.take i) qs ++ ldEn l tt (ps.drop i) qs by rw [← ldEn_app, List.take_append_drop])
  rw [List.length_append] at e
  unfold curL
  rw [List.length_append]
  cases hp : ps[i]? with
  | none => simp; omega
  | some p =>
    simp only []
    have hd : ps.drop i = p :: ps.drop (i + 1) := by
      obtain ⟨h1, h2⟩ := List.getElem?_eq_some_iff.1 hp
      rw [List.drop_eq_getElem_cons h1, h2]
    have e2 : (ldEn l tt (ps.drop i) qs).length = (qs.flatMap (ldOne l tt p)).length + (ldEn l tt (ps.drop (i + 1)) qs).length := by
      rw [hd]; unfold ldEn; rw [List.flatMap_cons, List.length_append]
    have e3 := congrArg List.length (show qs.flatMap (ldOne l tt p) = (qs.take k).flatMap (ldOne l tt p) ++ (qs.drop k).flatMap (ldOne l tt p) by rw [← List.flatMap_append, List.take_append_drop])
    rw [List.length_append] at e3
    omega
theorem curL_full {l tt : Lat} {ps qs : List (Int × Int)} {i : Nat} (h : ps.length ≤ i) : curL l tt ps qs i 0 = ldEn l tt ps qs := by
  rw [curL_zero, List.take_of_length_le h]
/-- the list out behind the pairs that are met -/
noncomputable def outL (l tt : Lat) (ps qs : List (Int × Int)) (i k : Nat) : List Mat := insAll [] (curL l tt ps qs i k)
theorem outL_zero (l tt : Lat) (ps qs : List (Int × Int)) : outL l tt ps qs 0 0 = [] := by
  unfold outL; rw [curL_zero]; rfl
theorem outL_next {l tt : Lat} {ps qs : List (Int × Int)} {i k : Nat} {p : Int × Int} (hp : ps[i]? = some p) (hk : qs.length ≤ k) : outL l tt ps qs i k = outL l tt ps qs (i + 1) 0 := by
  unfold outL; rw [curL_next hp hk]
theorem outL_no {l tt : Lat} {ps qs : List (Int × Int)} {i k : Nat} {p q : Int × Int} (hp : ps[i]? = some p) (hq : qs[k]? = some q) (h : ldOne l tt p q = []) : outL l tt ps qs i (k + 1) = outL l tt ps qs i k := by
  unfold outL; rw [curL_step hp hq, h, List.append_nil]
theorem outL_yes {l tt : Lat} {ps qs : List (Int × Int)} {i k : Nat} {p q : Int × Int} {m : Mat} (hp : ps[i]? = some p) (hq : qs[k]? = some q) (h : ldOne l tt p q = [m]) : outL l tt ps qs i (k + 1) = ins m (outL l tt ps qs i k) := by
  unfold outL; rw [curL_step hp hq, h, insAll_app]; rfl
theorem outL_len {l tt : Lat} {ps qs : List (Int × Int)} (i k : Nat) {M : Nat} (h : (ldEn l tt ps qs).length ≤ M) : (outL l tt ps qs i k).length ≤ M := by
  unfold outL
  rw [insAll_len]
  have := curL_len l tt ps qs i k
  simp; omega
theorem outL_full {l tt : Lat} {ps qs : List (Int × Int)} {i : Nat} (h : ps.length ≤ i) : outL l tt ps qs i 0 = insAll [] (ldEn l tt ps qs) := by
  unfold outL; rw [curL_full h]
end La
/-- is the t-th matrix of a list before m? -/
def goB (O : List La.Mat) (m : La.Mat) (t : Nat) : Bool := match O[t]? with | some x => decide (ordI x m < 0) | none => false
theorem goB_no {O : List La.Mat} {m : La.Mat} {t : Nat} (h : goB O m t = false) : ∀ x, O[t]? = some x → ¬ ordI x m < 0 := fun x hx => by
  unfold goB at h; rw [hx] at h; exact of_decide_eq_false h
theorem goB_yes {O : List La.Mat} {m : La.Mat} {t : Nat} (h : goB O m t = true) (k : ∀ x ∈ O.take t, ordI x m < 0) : t < O.length ∧ ∀ x ∈ O.take (t + 1), ordI x m < 0 := by
  unfold goB at h
  cases hx : O[t]? with
  | none => rw [hx] at h; cases h
  | some y =>
    rw [hx] at h
    refine ⟨(List.getElem?_eq_some_iff.1 hx).1, fun x hm => ?_⟩
    rw [List.take_add_one, hx, Option.toList_some, List.mem_append, List.mem_singleton] at hm
    rcases hm with hm | rfl
    · exact k x hm
    · exact of_decide_eq_true h
theorem goB_len {O : List La.Mat} {m : La.Mat} {t : Nat} (h : O.length ≤ t) : goB O m t = false := by
  unfold goB; rw [List.getElem?_eq_none h]
theorem goB_at {O : List La.Mat} {m x : La.Mat} {t : Nat} (h : O[t]? = some x) : goB O m t = decide (ordI x m < 0) := by
  unfold goB; rw [h]
theorem ldOne_yes {l tt : La.Lat} {p q : Int × Int} (h1 : La.prod l p.1 p.2 q.1 q.2 = tt.b) (h2 : p.1 * q.2 - p.2 * q.1 = 1 ∨ p.1 * q.2 - p.2 * q.1 = -1) : La.ldOne l tt p q = [⟨p.1, q.1, p.2, q.2⟩] := by
  unfold La.ldOne; rw [if_pos ⟨h1, h2⟩]
theorem ldOne_no {l tt : La.Lat} {p q : Int × Int} (h : ¬ (La.prod l p.1 p.2 q.1 q.2 = tt.b ∧ (p.1 * q.2 - p.2 * q.1 = 1 ∨ p.1 * q.2 - p.2 * q.1 = -1))) : La.ldOne l tt p q = [] := by
  unfold La.ldOne; rw [if_neg h]
theorem own_mono {w : World} {base base' : Nat} {e : TypeId} {size n : Nat} {v : Value} {xs : List Value} (h : w.ownsRow base e size v n xs) (hb : base' ≤ base) : w.ownsRow base' e size v n xs := by
  obtain ⟨h1, h2⟩ := h
  refine ⟨h1, ?_⟩
  rcases h2 with h2 | ⟨g, cap, cur, a1, a2, a3⟩
  · exact .inl h2
  · exact .inr ⟨g, cap, cur, a1, by omega, a3⟩
theorem own_rdM4 {w : World} {base : Nat} {e : TypeId} {n c : Nat} {A : Option Addr} {l : List La.Mat} (h : w.ownsRow base e 4 (.slice A n c) n (msC l)) : RdM4 w w.heap.size A l := fun k m hk => by
  have hm : ∀ j, j < 4 → (msC l)[k * 4 + j]? = (mC m)[j]? := fun j hj => by have := msC_get hk [] j hj; rwa [List.append_nil] at this
  obtain ⟨g, h1, _, h2, h3⟩ := own_at h (j := k * 4) (u := .int .i64 m.a) (by have := hm 0 (by omega); simpa [mC] using this)
  obtain ⟨g1, k1, _, _, k3⟩ := own_at h (j := k * 4 + 1) (u := .int .i64 m.b) (by have := hm 1 (by omega); simpa [mC] using this)
  obtain ⟨g2, l1, _, _, l3⟩ := own_at h (j := k * 4 + 2) (u := .int .i64 m.c) (by have := hm 2 (by omega); simpa [mC] using this)
  obtain ⟨g3, m1, _, _, m3⟩ := own_at h (j := k * 4 + 3) (u := .int .i64 m.d) (by have := hm 3 (by omega); simpa [mC] using this)
  obtain rfl : g = g1 := by rw [h1] at k1; injection k1 with k1; injection k1
  obtain rfl : g = g2 := by rw [h1] at l1; injection l1 with l1; injection l1
  obtain rfl : g = g3 := by rw [h1] at m1; injection m1 with m1; injection m1
  exact ⟨g, 0, h1, h2, by rw [Nat.zero_add]; exact h3, by rw [Nat.zero_add]; exact k3, by rw [Nat.zero_add]; exact l3, by rw [Nat.zero_add]; exact m3⟩
theorem own_rdP6 {w : World} {base : Nat} {e : TypeId} {n c : Nat} {A : Option Addr} {l : List (Int × Int)} (h : w.ownsRow base e 2 (.slice A n c) n (psC l)) : RdP w w.heap.size A l := fun k m hk => by
  have hg : ∀ {l : List (Int × Int)} {k : Nat} {p : Int × Int}, l[k]? = some p → (psC l)[k * 2]? = some (.int .i64 p.1) ∧ (psC l)[k * 2 + 1]? = some (.int .i64 p.2) := by
    intro l
    induction l with
    | nil => intro k p h; simp at h
    | cons y l ih =>
      intro k p h
      have e : psC (y :: l) = pC y ++ psC l := by simp [psC]
      rw [e]
      cases k with
      | zero => obtain rfl : y = p := by simpa using h
                exact ⟨rfl, rfl⟩
      | succ k =>
        have := ih (k := k) (p := p) (by simpa using h)
        rw [show (k + 1) * 2 = k * 2 + 2 by omega]
        constructor
        · rw [List.getElem?_append_right (by simp [pC])]; simpa [pC] using this.1
        · rw [List.getElem?_append_right (by simp [pC])]; rw [show k * 2 + 2 + 1 - (pC y).length = k * 2 + 1 by simp [pC]]; exact this.2
  obtain ⟨e1, e2⟩ := hg hk
  obtain ⟨g, h1, _, h2, h3⟩ := own_at h e1
  obtain ⟨g2, h4, _, _, h5⟩ := own_at h e2
  obtain rfl : g = g2 := by rw [h1] at h4; injection h4 with h4; injection h4
  exact ⟨g, 0, h1, h2, by rw [Nat.zero_add]; exact h3, by rw [Nat.zero_add]; exact h5⟩
theorem rdP_get {w : World} {B b o k : Nat} {ps : List (Int × Int)} {x y : Int} (h : RdP w B (some ⟨b, o, none⟩) ps) (hk : ps[k]? = some (x, y)) : b < B ∧ w.cell? ⟨b, o + k * 2, none⟩ = some (.int .i64 x) ∧ w.cell? ⟨b, o + k * 2 + 1, none⟩ = some (.int .i64 y) := by
  obtain ⟨b', o', h1, h2, h3⟩ := h k _ hk
  injection h1 with h1
  injection h1 with e1 e2
  subst e1 e2
  exact ⟨h2, h3⟩
theorem RdM4.get' {w : World} {B b o k : Nat} {ms : List La.Mat} {m : La.Mat} (h : RdM4 w B (some ⟨b, o, none⟩) ms) (hk : ms[k]? = some m) : b < B ∧ w.cell? ⟨b, o + k * 4, none⟩ = some (.int .i64 m.a) ∧ w.cell? ⟨b, o + k * 4 + 1, none⟩ = some (.int .i64 m.b) ∧ w.cell? ⟨b, o + k * 4 + 2, none⟩ = some (.int .i64 m.c) ∧ w.cell? ⟨b, o + k * 4 + 3, none⟩ = some (.int .i64 m.d) := by
  obtain ⟨b', o', h1, h2, h3⟩ := h k m hk
  injection h1 with h1
  injection h1 with e1 e2
  subst e1 e2
  exact ⟨h2, h3⟩
theorem RdM4.some_of' {w : World} {B : Nat} {A : Option Addr} {ms : List La.Mat} (h : RdM4 w B A ms) (hn : 0 < ms.length) : ∃ b o, A = some ⟨b, o, none⟩ := by
  obtain ⟨m, hm⟩ := get_of_lt (l := ms) (k := 0) hn
  obtain ⟨b, o, h1, _⟩ := h 0 m hm
  exact ⟨b, o, h1⟩
theorem app_ownM {w : World} {base m : Nat} {e : TypeId} {v : Value} {l : List La.Mat} {x : La.Mat} (h : w.ownsRow base e 4 v (m + 1) (msC l ++ mC x)) : w.ownsRow base e 4 v (m + 1) (msC (l ++ [x])) := by
  rw [msC_app, msC_one]; exact h
theorem RdM4.takes {w : World} {B : Nat} {A : Option Addr} {l : List La.Mat} (h : RdM4 w B A l) (k : Nat) : RdM4 w B A (l.take k) := fun j m hj => by
  rw [List.getElem?_take] at hj
  split at hj
  · exact h j m hj
  · cases hj
theorem RdM4.drops {w : World} {B : Nat} {A A' : Option Addr} {l : List La.Mat} {k n : Nat} (h : RdM4 w B A l) (hl : l.length = n) (hA : 0 < n - k → A' = A.map (fun x => x.add (k * 4))) : RdM4 w B A' (l.drop k) := fun j m hj => by
  rw [List.getElem?_drop] at hj
  obtain ⟨b, o, rfl, h1, c0, c1, c2, c3⟩ := h _ m hj
  have hlt := (List.getElem?_eq_some_iff.1 hj).1
  rw [hA (by omega)]
  refine ⟨b, o + k * 4, by simp [Addr.add_lit], h1, ?_, ?_, ?_, ?_⟩
  · rw [show o + k * 4 + j * 4 = o + (k + j) * 4 by omega]; exact c0
  · rw [show o + k * 4 + j * 4 = o + (k + j) * 4 by omega]; exact c1
  · rw [show o + k * 4 + j * 4 = o + (k + j) * 4 by omega]; exact c2
  · rw [show o + k * 4 + j * 4 = o + (k + j) * 4 by omega]; exact c3
theorem sliceM_to (A : Option Addr) (n c m : Nat) (hm : m ≤ c) (W : World) : (Instr.slice 51 (.slice A n c) none (some (.int .i64 (m : Int))) none).run Try.prog W = .ok (.slice A m c) W := by
  rw [run_slice_h (P := Try.prog) (w := W) _ _ _ _ (by kernel_rfl) .i64 (m : Int) (by omega) (by omega)]
  have hs : (sizeOf (Try.prog.elem 51)).run Try.prog W = .ok 4 W := by kernel_rfl
  rw [hs]
  simp [sliced]
  intro _
  cases A <;> simp [Addr.add_zero']
theorem sliceM_from (A : Option Addr) (n c l : Nat) (hl : l ≤ n) (hnc : n ≤ c) : ∃ A' c', (∀ W, (Instr.slice 51 (.slice A n c) (some (.int .i64 (l : Int))) none none).run Try.prog W = .ok (.slice A' (n - l) c') W) ∧ (0 < n - l → A' = A.map (fun x => x.add (l * 4))) := by
  by_cases e : c - l = 0
  · refine ⟨A, 0, fun W => ?_, fun h => by omega⟩
    rw [run_slice_l (P := Try.prog) (w := W) _ _ _ _ (by kernel_rfl) .i64 (l : Int) (by omega) (by omega)]
    have hs : (sizeOf (Try.prog.elem 51)).run Try.prog W = .ok 4 W := by kernel_rfl
    rw [hs]
    simp [sliced, e]
    intro h
    exact absurd (show c = l by omega) h
  · refine ⟨A.map (fun x => x.add (l * 4)), c - l, fun W => ?_, fun _ => rfl⟩
    rw [run_slice_l (P := Try.prog) (w := W) _ _ _ _ (by kernel_rfl) .i64 (l : Int) (by omega) (by omega)]
    have hs : (sizeOf (Try.prog.elem 51)).run Try.prog W = .ok 4 W := by kernel_rfl
    rw [hs]
    simp [sliced]
    intro h
    exact absurd h (by omega)
end Go.Proofs.Ytmghpaibdgkbfaa
/-
  Plain facts of the law's examples in chapter 6.
-/
namespace Go.Proofs.Ytmghpaibdgkbfaa
theorem hex_len {l : La.Lat} {m : La.Mat} (h : La.St ⟨2, 1, 2⟩ l m) (r : La.Red l) : (grp l 81).length = 12 := by
  have e : (⟨2, 1, 2⟩ : La.Lat) = l := La.red_uniq ⟨by decide, by decide, by decide⟩ (by decide) r h.v.a1 h.u h.e
  subst e
  decide +kernel
theorem red_ex {l : La.Lat} {m : La.Mat} (h : La.St ⟨5, 7, 10⟩ l m) (r : La.Red l) : l = ⟨1, 0, 1⟩ ∧ redM l m = ⟨-3, -1, 2, 1⟩ := by
  have hu : La.unit (⟨-3, -1, 2, 1⟩ : La.Mat) := Or.inr (by decide)
  have e0 : La.lead ⟨1, 0, 1⟩ (La.inv ⟨-3, -1, 2, 1⟩) = ⟨5, 7, 10⟩ := by decide
  have e1 : La.lead ⟨1, 0, 1⟩ (La.mul (La.inv ⟨-3, -1, 2, 1⟩) m) = l := by rw [La.lead_mul, e0, h.e]
  have e2 : (⟨1, 0, 1⟩ : La.Lat) = l := La.red_uniq ⟨by decide, by decide, by decide⟩ (by decide) r h.v.a1 (La.unit_mul (La.unit_inv hu) h.u) e1
  subst e2
  refine ⟨rfl, ?_⟩
  obtain ⟨i, hi, hc⟩ := cand_all (La.keep_small ⟨by decide, by decide, by decide⟩ (by decide) (by decide) e1)
  have hm : m = La.mul ⟨-3, -1, 2, 1⟩ (cand i) := by rw [hc, ← La.mul_assoc, La.mul_inv hu, La.one_mul]
  rw [← hc] at e1
  rw [hm]
  have key : ∀ i, i < 81 → La.lead ⟨1, 0, 1⟩ (cand i) = ⟨1, 0, 1⟩ → redM ⟨1, 0, 1⟩ (La.mul ⟨-3, -1, 2, 1⟩ (cand i)) = ⟨-3, -1, 2, 1⟩ := by decide +kernel
  exact key i hi e1
end Go.Proofs.Ytmghpaibdgkbfaa
