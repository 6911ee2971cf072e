/-
  Contract of chapter 16: pillow.New.
-/
import Derived.Test.YtaenafcecfdffaaVB6
namespace Go.Proofs.Ytaenafcecfdffaa
open Go.RowKit
def lineN (k : Nat) : List Int := (List.range k).map Int.ofNat
theorem lineN_succ (k : Nat) : lineN (k + 1) = lineN k ++ [(k : Int)] := by simp [lineN, List.range_succ]
theorem lineN_len (k : Nat) : (lineN k).length = k := by simp [lineN]
theorem rows_d {rs : List RowD} (h : (rs.map RowD.e).Nodup) (i j : Nat) (r s : RowD) (hi : rs[i]? = some r) (hj : rs[j]? = some s) (hne : i ≠ j) : r.e ≠ s.e := fun e => by
  have h1 : (rs.map RowD.e)[i]? = (rs.map RowD.e)[j]? := by rw [List.getElem?_map, List.getElem?_map, hi, hj]; simp [e]
  exact hne ((List.getElem?_inj (by simpa using lt_of_get hi) h).1 h1)
theorem rows_t {rs : List RowD} {T : TypeId} (h : T ∉ rs.map RowD.e) (i : Nat) (r : RowD) (hi : rs[i]? = some r) : T ≠ r.e := fun e => h (by rw [e]; exact List.mem_map.2 ⟨r, mem_of_get hi, rfl⟩)
def pil0 (l : List Int) : Pil := ⟨-1, [], [], [], l, [], []⟩
theorem PilH.new {W : World} {B g : Nat} {p s : Int} (hB : B ≤ g) (hc : Has W g 81 [.int .i64 p, .int .i64 s, .int .i64 (-1), .slice none 0 0, .slice none 0 0, .slice none 0 0, .slice none 0 0, .slice none 0 0, .slice none 0 0]) :
    PilH W B g p s (pil0 []) (.slice none 0 0) (.slice none 0 0) (.slice none 0 0) (.slice none 0 0) (.slice none 0 0) (.slice none 0 0) := by
  refine ⟨hc, ?_, rows_d (rs := pilRows (pil0 []) (.slice none 0 0) (.slice none 0 0) (.slice none 0 0) (.slice none 0 0) (.slice none 0 0) (.slice none 0 0)) (by simp [pilRows]), rows_t (by simp [pilRows]), hB, Nat.le_trans hB (Nat.le_of_lt hc.lt)⟩
  intro i r hi
  have hm := mem_of_get hi
  simp only [pilRows, List.mem_cons, List.not_mem_nil, or_false] at hm
  rcases hm with rfl | rfl | rfl | rfl | rfl | rfl <;> exact World.ownsRow_nil _ _ _ _
/-- an ending: a new pillow -/
def RetPn (p s : Int) (z : Pil) (B : Nat) (e : Ending) (w' : World) : Prop := ∃ g S M V L X P, e = .returned (.tuple #[.pointer (some ⟨g, 0, none⟩), .int .i64 0]) ∧ PilH w' B g p s z S M V L X P
set_option maxRecDepth 100000 in
set_option maxHeartbeats 4000000 in
theorem newC (p s : Int) (w : World) (hE : csE p s [] = 0) :
    Calls Try.prog 11 #[.int .i64 p, .int .i64 s] w fun e w' => RetPn p s (pil0 (lineN (2 * p.toNat))) w.heap.size e w' ∧ Below w.heap.size w w' := by
  have hp : 2 ≤ p ∧ p ≤ 24 := by
    refine Decidable.byContradiction fun h => ?_
    unfold csE at hE
    rw [if_pos (by omega)] at hE
    cases hE
  obtain ⟨T, rfl⟩ := Int.eq_ofNat_of_zero_le (show 0 ≤ p by omega)
  have CS := csheet (T : Int) s none 0 0 [] w (by decide) (fun k x hx => by simp at hx) rfl (fun x hx => by simp at hx)
  rw [hE] at CS
  have CS' := Lib.hid CS
  clear CS hE
  rw [show ((T : Int)).toNat = T by omega]
  obtain ⟨T2, hT2⟩ : ∃ T2, T2 = 2 * T := ⟨_, rfl⟩
  rw [← hT2]
  have i1 : IntKind.i64.wrap (2 * (T : Int)) = (T2 : Int) := by rw [IntWalk.i64_in _ (by omega)]; omega
  have t48 : T2 ≤ 48 := by omega
  clear hT2
  go_enter Try.func11, Try.ntmps11
  go_wp2_with fail
  refine CS'.out.mono ?_
  rintro e w1 ⟨p5, A5, n5, c5, b5, rfl, hb1⟩
  have HB := Lib.hid hb1
  have z1 := hb1.size
  clear hb1 CS'
  go_wp2
  go_loopw [27] (fun i wr => ∃ (k : Nat) (L : Value), k ≤ T2 ∧ i = .int .i64 (k : Int) ∧ Hid (PilH wr w.heap.size (w1.heap.size + 1) T s (pil0 (lineN k)) (.slice none 0 0) (.slice none 0 0) (.slice none 0 0) L (.slice none 0 0) (.slice none 0 0)) ∧ Hid (Below w.heap.size w wr)) (fun i _ => T2 - (intOf i).toNat)
  case atStart =>
    refine ⟨0, .slice none 0 0, Nat.zero_le _, rfl, ?_, ?_⟩
    · exact PilH.new (by omega) (by
        first | exact Has.new rfl | (have := Has.new (w := w1.alloc (.cells #[.int .i64 p5, .slice A5 n5 c5] 24)) (t := 81) (cs := [.int .i64 (T : Int), .int .i64 s, .int .i64 (-1), .slice none 0 0, .slice none 0 0, .slice none 0 0, .slice none 0 0, .slice none 0 0, .slice none 0 0]) rfl; rw [World.size_alloc] at this; exact this))
    · show Below _ _ _
      exact bvia HB.out (by go_grown)
  case round =>
    obtain ⟨k, L, hk, rfl, HP, HBW⟩ := hrel
    obtain ⟨wo, rfl⟩ : ∃ wo : World, wo = wr := ⟨_, rfl⟩
    by_cases hlt : k < T2
    · have jk : (k : Int) < (T2 : Int) := by omega
      have o3 : wo.ownsRow w.heap.size 3 1 L k ((lineN k).map vInt) := by have := HP.out.o 3 _ rfl; rw [show (pil0 (lineN k)).l.length = k from lineN_len k] at this; exact this
      have O3 := Lib.hid o3
      obtain ⟨LA, lc, rfl⟩ := own_form o3
      clear o3
      have a6 : wo.cell? ⟨w1.heap.size + 1, 6, none⟩ = some (.slice LA k lc) := RowsH.cell HP.out 6
      have q6 := HP.out.c.lt
      have f6 := HP.out.c.free 6
      have i2 : IntKind.i64.wrap ((k : Int) + 1) = (k : Int) + 1 := IntWalk.i64_in _ (by omega)
      have zz := HP.out.z
      have hK := Lib.hid (fun (W' : World) (A4 : Option Addr) (c4 : Nat) (h1 : (wo.alloc (.cells #[.int .i64 (k : Int)] 3)).grownBy W' (Value.slice LA k lc).ownBlock) (h2 : W'.ownsRow w.heap.size 3 1 (.slice A4 (k + 1) c4) (k + 1) ((lineN k).map vInt ++ [vInt (k : Int)])) => RowsH.grow (RowsH.below HP.out ((Below.refl _ wo).alloc (Nat.le_refl _) (.cells #[.int .i64 (k : Int)] 3))) (i := 3) rfl h1 h2 6 rfl)
      have C4 := Lib.hid (fun (W' : World) (h1 : (wo.alloc (.cells #[.int .i64 (k : Int)] 3)).grownBy W' (Value.slice LA k lc).ownBlock) => (RowsH.below HP.out ((Below.refl _ wo).alloc (Nat.le_refl _) (.cells #[.int .i64 (k : Int)] 3))).c.same (h1.block _ (by simp; omega) (fun e => (RowsH.below HP.out ((Below.refl _ wo).alloc (Nat.le_refl _) (.cells #[.int .i64 (k : Int)] 3))).ne (i := 3) rfl e.symm)))
      go_wp2_with (at_builtin; refine wpList_app rfl (.tmp 34) (.tmp 36) _ rfl w.heap.size 3 (.int .i64 0) 1 8 Try.underlying39 infoInt rfl (by omega) (by omega) (.slice LA k lc) _ _ rfl (O3.out.alloc _) wo.heap.size [vInt (k : Int)] rfl rfl (news_new _ _ _) (one_int _ _) (by omega) (by simp; omega) ?_; intro g1 cap1 w3 hg1 hown1 hgrow1 hor1; have c4 := C4.out _ hgrow1; have c6 := c4.cell 6; have f6 := c4.free 6; have q4 := c4.lt)
      go_roundw
      case rel =>
        refine ⟨k + 1, .slice (some ⟨g1, 0, none⟩) (k + 1) cap1, by omega, rfl, ?_, ?_⟩
        · have h6 := hK.out w3 _ _ hgrow1 hown1
          have e1 := lineN_len (k + 1)
          have e2 : (lineN (k + 1)).map vInt = (lineN k).map vInt ++ [vInt (k : Int)] := by rw [lineN_succ]; simp
          show RowsH _ _ _ _ _ _
          unfold pilRows pil0
          simp only [e1, e2]
          exact h6
        · show Below _ _ _
          exact ((HBW.out.alloc (by have := HBW.out.size; omega) (.cells #[.int .i64 (k : Int)] 3)).grown hgrow1 (by simp; omega) (fun k hk => (O3.out.lt k hk).1)).setCell (p := ⟨w1.heap.size + 1, 6, none⟩) (by show _ ≤ w1.heap.size + 1; omega) _
      case measure => first | (simp [intOf]; done) | (simp [intOf]; omega)
    · obtain rfl : k = T2 := by omega
      have jk : ¬ (k : Int) < (k : Int) := by omega
      go_wp2
      go_ret2
      exact ⟨⟨_, _, _, _, _, _, _, rfl, HP.out⟩, HBW.out⟩
end Go.Proofs.Ytaenafcecfdffaa
/-
  Plain words of chapter 16: what a step does to a pillow.
-/
namespace Go.Proofs.Ytaenafcecfdffaa
open Go.RowKit
def Pil.crosses (z : Pil) (mid : Nat) (ns : List Int) : Nat → Pil
  | 0 => z
  | j + 1 => match ns[j]? with
    | none => z.crosses mid ns j
    | some n => (z.crosses mid ns j).cross (mkAt mid n).toNat (decide (0 < n))
def Pil.letter (z : Pil) (mid : Nat) (c : UInt8) : Pil := if c = 80 then z.stick mid false else z.crosses mid (crW [c] 1) (crW [c] 1).length
def Pil.letters (z : Pil) (mid : Nat) (bs : List UInt8) : Nat → Pil
  | 0 => z
  | k + 1 => match bs[k]? with
    | none => z.letters mid bs k
    | some c => (z.letters mid bs k).letter mid c
def Pil.note (z : Pil) (x : Wk) : Pil := { z with steps := z.steps ++ [x], marks := z.marks ++ [⟨z.hands, (z.works.length : Int), (z.xs.length : Int), (z.ps.length : Int)⟩] }
def Pil.work (z : Pil) (y : Wk) : Pil := { z with works := z.works ++ [y] }
def stepMid (x : Wk) : Nat := 2 * x.at_.toNat + 1
/-- a step that may be done -/
def Pil.step (z : Pil) (x : Wk) : Pil :=
  if x.kind = 1 then { z.note x with hands := x.at_ }
  else if x.kind = 3 then ((z.note x).stick (stepMid x) true).work ⟨2, x.at_, ⟨#[]⟩⟩
  else ((z.note x).letters (stepMid x) x.word.data.toList x.word.data.toList.length).work ⟨1, x.at_, x.word⟩
theorem Pil.crosses_succ {z : Pil} {mid : Nat} {ns : List Int} {j : Nat} {n : Int} (h : ns[j]? = some n) : z.crosses mid ns (j + 1) = (z.crosses mid ns j).cross (mkAt mid n).toNat (decide (0 < n)) := by
  show (match ns[j]? with | none => _ | some n => _) = _
  rw [h]
theorem Pil.letters_succ {z : Pil} {mid : Nat} {bs : List UInt8} {k : Nat} {c : UInt8} (h : bs[k]? = some c) : z.letters mid bs (k + 1) = (z.letters mid bs k).letter mid c := by
  show (match bs[k]? with | none => _ | some n => _) = _
  rw [h]
theorem Pil.crosses_all (z : Pil) (mid : Nat) (ns : List Int) : ∀ j, (z.crosses mid ns j).hands = z.hands ∧ (z.crosses mid ns j).works = z.works ∧ (z.crosses mid ns j).steps = z.steps ∧ (z.crosses mid ns j).marks = z.marks ∧ (z.crosses mid ns j).ps = z.ps ∧ (z.crosses mid ns j).l.length = z.l.length ∧ (z.crosses mid ns j).xs.length ≤ z.xs.length + j
  | 0 => ⟨rfl, rfl, rfl, rfl, rfl, rfl, Nat.le_refl _⟩
  | j + 1 => by
    obtain ⟨h1, h2, h3, h4, h5, h6, h7⟩ := Pil.crosses_all z mid ns j
    cases hn : ns[j]? with
    | none =>
      have e : z.crosses mid ns (j + 1) = z.crosses mid ns j := by
        show (match ns[j]? with | none => _ | some n => _) = _
        rw [hn]
      rw [e]
      exact ⟨h1, h2, h3, h4, h5, h6, by omega⟩
    | some n =>
      rw [Pil.crosses_succ hn]
      exact ⟨h1, h2, h3, h4, h5, by simpa [Pil.cross] using h6, by simp only [Pil.cross, List.length_append, List.length_singleton]; omega⟩
theorem Pil.letter_all (z : Pil) (mid : Nat) (c : UInt8) : (z.letter mid c).hands = z.hands ∧ (z.letter mid c).works = z.works ∧ (z.letter mid c).steps = z.steps ∧ (z.letter mid c).marks = z.marks ∧ (z.letter mid c).l.length = z.l.length ∧ (z.letter mid c).xs.length ≤ z.xs.length + 3 ∧ (z.letter mid c).ps.length ≤ z.ps.length + 1 := by
  unfold Pil.letter
  split
  · exact ⟨rfl, rfl, rfl, rfl, rfl, Nat.le_add_right _ _, by simp [Pil.stick]⟩
  · obtain ⟨h1, h2, h3, h4, h5, h6, h7⟩ := Pil.crosses_all z mid (crW [c] 1) (crW [c] 1).length
    have := crW_len [c] 1
    exact ⟨h1, h2, h3, h4, h6, by omega, by rw [h5]; exact Nat.le_add_right _ _⟩
theorem Pil.letters_all (z : Pil) (mid : Nat) (bs : List UInt8) : ∀ k, (z.letters mid bs k).hands = z.hands ∧ (z.letters mid bs k).works = z.works ∧ (z.letters mid bs k).steps = z.steps ∧ (z.letters mid bs k).marks = z.marks ∧ (z.letters mid bs k).l.length = z.l.length ∧ (z.letters mid bs k).xs.length ≤ z.xs.length + 3 * k ∧ (z.letters mid bs k).ps.length ≤ z.ps.length + k
  | 0 => ⟨rfl, rfl, rfl, rfl, rfl, Nat.le_refl _, Nat.le_refl _⟩
  | k + 1 => by
    obtain ⟨h1, h2, h3, h4, h5, h6, h7⟩ := Pil.letters_all z mid bs k
    cases hb : bs[k]? with
    | none =>
      have e : z.letters mid bs (k + 1) = z.letters mid bs k := by
        show (match bs[k]? with | none => _ | some n => _) = _
        rw [hb]
      rw [e]
      exact ⟨h1, h2, h3, h4, h5, by omega, by omega⟩
    | some c =>
      rw [Pil.letters_succ hb]
      obtain ⟨g1, g2, g3, g4, g5, g6, g7⟩ := Pil.letter_all (z.letters mid bs k) mid c
      exact ⟨g1.trans h1, g2.trans h2, g3.trans h3, g4.trans h4, g5.trans h5, by omega, by omega⟩
theorem cpE_zero {p s h : Int} {m : Nat} {x : Wk} (h0 : cpE p s h m x = 0) : shapeB x.kind x.word = true ∧ wchk x.word = 0 ∧ 0 ≤ x.at_ ∧ x.at_ ≤ p - 2 ∧ (x.kind = 1 → x.at_ ≤ p - s) ∧ (x.kind ≠ 1 → h ≤ x.at_ ∧ x.at_ + 2 ≤ h + s) := by
  unfold cpE at h0
  by_cases c1 : shapeB x.kind x.word = false
  · rw [if_pos c1] at h0; cases h0
  rw [if_neg c1] at h0
  by_cases c2 : wchk x.word ≠ 0
  · rw [if_pos c2] at h0; exact absurd h0 c2
  rw [if_neg c2] at h0
  by_cases c3 : x.at_ < 0 ∨ p - 2 < x.at_ ∨ (x.kind = 1 ∧ p - s < x.at_)
  · rw [if_pos c3] at h0; cases h0
  rw [if_neg c3] at h0
  by_cases c4 : x.kind ≠ 1 ∧ (x.at_ < h ∨ h + s ≤ x.at_ + 1)
  · rw [if_pos c4] at h0; cases h0
  refine ⟨by simpa using c1, by simpa using c2, by omega, by omega, fun hk => ?_, fun hk => ?_⟩
  · omega
  · omega
theorem cpAll_zero {p s h : Int} {m : Nat} {x : Wk} {l : List Wk} (h0 : cpAll p s h m (x :: l) = 0) : cpE p s h m x = 0 ∧ (x.kind = 1 → cpAll p s x.at_ m l = 0) := by
  unfold cpAll at h0
  by_cases c : cpE p s h m x ≠ 0
  · rw [if_pos c] at h0; exact absurd h0 c
  · rw [if_neg c] at h0
    exact ⟨by simpa using c, fun hk => by rw [if_pos hk] at h0; exact h0⟩
theorem pilE_zero {p s : Int} {z : Pil} {x : Wk} (h : pilE p s z x = 0) : (2 ≤ p ∧ p ≤ 24) ∧ (2 ≤ s ∧ s ≤ 8 ∧ s ≤ p) ∧ shapeB x.kind x.word = true ∧ wchk x.word = 0 ∧ 0 ≤ x.at_ ∧ x.at_ ≤ p - 2 ∧ (x.kind = 1 → x.at_ ≤ p - s) ∧ (x.kind ≠ 1 → z.works.length ≠ 400 ∧ 0 ≤ z.hands ∧ z.hands ≤ x.at_ ∧ x.at_ + 2 ≤ z.hands + s) := by
  unfold pilE at h
  by_cases c : csE p s (handL z.hands ++ [x]) ≠ 0
  · rw [if_pos c] at h; exact absurd h c
  rw [if_neg c] at h
  have c' : csE p s (handL z.hands ++ [x]) = 0 := by simpa using c
  have hm : x.kind ≠ 1 → z.works.length ≠ 400 := fun hk h4 => by rw [if_pos ⟨hk, h4⟩] at h; cases h
  unfold csE at c'
  by_cases c1 : p < 2 ∨ 24 < p ∨ spB p s = false
  · rw [if_pos c1] at c'; cases c'
  rw [if_neg c1] at c'
  have hsp : spB p s = true := by cases hq : spB p s with
    | true => rfl
    | false => exact absurd (.inr (.inr hq)) c1
  have hs : 2 ≤ s ∧ s ≤ 8 ∧ s ≤ p := of_decide_eq_true hsp
  have hlen : ¬ 1000 < (handL z.hands ++ [x]).length := by
    unfold handL; split <;> simp
  rw [if_neg hlen] at c'
  have hp : 2 ≤ p ∧ p ≤ 24 := by
    constructor
    · exact Int.not_lt.1 (fun hh => c1 (.inl hh))
    · exact Int.not_lt.1 (fun hh => c1 (.inr (.inl hh)))
  by_cases h0 : 0 ≤ z.hands
  · rw [show handL z.hands = [⟨1, z.hands, ⟨#[]⟩⟩] from if_pos h0] at c'
    obtain ⟨_, e2⟩ := cpAll_zero (show cpAll p s (-s) 0 (⟨1, z.hands, ⟨#[]⟩⟩ :: [x]) = 0 from c')
    obtain ⟨e3, _⟩ := cpAll_zero (e2 rfl)
    obtain ⟨q1, q2, q3, q4, q5, q6⟩ := cpE_zero e3
    exact ⟨hp, hs, q1, q2, q3, q4, q5, fun hk => ⟨hm hk, h0, q6 hk⟩⟩
  · rw [show handL z.hands = [] from if_neg h0] at c'
    obtain ⟨e3, _⟩ := cpAll_zero (show cpAll p s (-s) 0 (x :: []) = 0 from c')
    obtain ⟨q1, q2, q3, q4, q5, q6⟩ := cpE_zero e3
    refine ⟨hp, hs, q1, q2, q3, q4, q5, fun hk => ?_⟩
    have := q6 hk
    omega
end Go.Proofs.Ytaenafcecfdffaa
