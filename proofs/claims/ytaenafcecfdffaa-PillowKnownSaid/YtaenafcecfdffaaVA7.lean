/-
  Contract of chapter 16: pillow.New.
-/
import Derived.Test.YtaenafcecfdffaaVA4
import Derived.Test.YtaenafcecfdffaaVA6
namespace Go.Proofs.Ytaenafcecfdffaa
open Go.RowKit
def lineN (k : Nat) : List Int := (List.range k).map Int.ofNat
theorem lineN_succ (k : Nat) : lineN (k + 1) = lineN k ++ [(k : Int)] := by simp [lineN, List.range_succ]
theorem lineN_len (k : Nat) : (lineN k).length = k := by simp [lineN]
theorem rows_d {rs : List RowD} (h : (rs.map RowD.e).Nodup) (i j : Nat) (r s : RowD) (hi : rs[i]? = some r) (hj : rs[j]? = some s) (hne : i ≠ j) : r.e ≠ s.e := fun e => by
  have h1 : (rs.map RowD.e)[i]? = (rs.map RowD.e)[j]? := by rw [List.getElem?_map, List.getElem?_map, hi, hj]; simp [e]
  exact hne ((List.getElem?_inj (by simpa using lt_of_get hi) h).1 h1)
theorem rows_t {rs : List RowD} {T : TypeId} (h : T ∉ rs.map RowD.e) (i : Nat) (r : RowD) (hi : rs[i]? = some r) : T ≠ r.e := fun e => h (by rw [e]; exact List.mem_map.2 ⟨r, mem_of_get hi, rfl⟩)
def pil0 (l : List Int) : Pil := ⟨-1, [], [], [], l, [], []⟩
theorem PilH.new {W : World} {B g : Nat} {p s : Int} (hB : B ≤ g) (hc : Has W g 81 [.int .i64 p, .int .i64 s, .int .i64 (-1), .slice none 0 0, .slice none 0 0, .slice none 0 0, .slice none 0 0, .slice none 0 0, .slice none 0 0]) :
    PilH W B g p s (pil0 []) (.slice none 0 0) (.slice none 0 0) (.slice none 0 0) (.slice none 0 0) (.slice none 0 0) (.slice none 0 0) := by
  refine ⟨hc, ?_, rows_d (rs := pilRows (pil0 []) (.slice none 0 0) (.slice none 0 0) (.slice none 0 0) (.slice none 0 0) (.slice none 0 0) (.slice none 0 0)) (by simp [pilRows]), rows_t (by simp [pilRows]), hB, Nat.le_trans hB (Nat.le_of_lt hc.lt)⟩
  intro i r hi
  have hm := mem_of_get hi
  simp only [pilRows, List.mem_cons, List.not_mem_nil, or_false] at hm
  rcases hm with rfl | rfl | rfl | rfl | rfl | rfl <;> exact World.ownsRow_nil _ _ _ _
/-- an ending: a new pillow -/
def RetPn (p s : Int) (z : Pil) (B : Nat) (e : Ending) (w' : World) : Prop := ∃ g S M V L X P, e = .returned (.tuple #[.pointer (some ⟨g, 0, none⟩), .int .i64 0]) ∧ PilH w' B g p s z S M V L X P
set_option maxRecDepth 100000 in
set_option maxHeartbeats 4000000 in
theorem newC (p s : Int) (w : World) (hE : csE p s [] = 0) :
    Calls Try.prog 11 #[.int .i64 p, .int .i64 s] w fun e w' => RetPn p s (pil0 (lineN (2 * p.toNat))) w.heap.size e w' ∧ Below w.heap.size w w' := by
  have hp : 2 ≤ p ∧ p ≤ 24 := by
    refine Decidable.byContradiction fun h => ?_
    unfold csE at hE
    rw [if_pos (by omega)] at hE
    cases hE
  obtain ⟨T, rfl⟩ := Int.eq_ofNat_of_zero_le (show 0 ≤ p by omega)
  have CS := csheet (T : Int) s none 0 0 [] w (by decide) (fun k x hx => by simp at hx) rfl (fun x hx => by simp at hx)
  rw [hE] at CS
  have CS' := Lib.hid CS
  clear CS hE
  rw [show ((T : Int)).toNat = T by omega]
  obtain ⟨T2, hT2⟩ : ∃ T2, T2 = 2 * T := ⟨_, rfl⟩
  rw [← hT2]
  have i1 : IntKind.i64.wrap (2 * (T : Int)) = (T2 : Int) := by rw [IntWalk.i64_in _ (by omega)]; omega
  have t48 : T2 ≤ 48 := by omega
  clear hT2
  go_enter Try.func11, Try.ntmps11
  go_wp2_with fail
  refine CS'.out.mono ?_
  rintro e w1 ⟨p5, A5, n5, c5, b5, rfl, hb1⟩
  have HB := Lib.hid hb1
  have z1 := hb1.size
  clear hb1 CS'
  go_wp2
  go_loopw [27] (fun i wr => ∃ (k : Nat) (L : Value), k ≤ T2 ∧ i = .int .i64 (k : Int) ∧ Hid (PilH wr w.heap.size (w1.heap.size + 1) T s (pil0 (lineN k)) (.slice none 0 0) (.slice none 0 0) (.slice none 0 0) L (.slice none 0 0) (.slice none 0 0)) ∧ Hid (Below w.heap.size w wr)) (fun i _ => T2 - (intOf i).toNat)
  case atStart =>
    refine ⟨0, .slice none 0 0, Nat.zero_le _, rfl, ?_, ?_⟩
    · exact PilH.new (by omega) (by
        first | exact Has.new rfl | (have := Has.new (w := w1.alloc (.cells #[.int .i64 p5, .slice A5 n5 c5] 24)) (t := 81) (cs := [.int .i64 (T : Int), .int .i64 s, .int .i64 (-1), .slice none 0 0, .slice none 0 0, .slice none 0 0, .slice none 0 0, .slice none 0 0, .slice none 0 0]) rfl; rw [World.size_alloc] at this; exact this))
    · show Below _ _ _
      exact bvia HB.out (by go_grown)
  case round =>
    obtain ⟨k, L, hk, rfl, HP, HBW⟩ := hrel
    obtain ⟨wo, rfl⟩ : ∃ wo : World, wo = wr := ⟨_, rfl⟩
    by_cases hlt : k < T2
    · have jk : (k : Int) < (T2 : Int) := by omega
      have o3 : wo.ownsRow w.heap.size 3 1 L k ((lineN k).map vInt) := by have := HP.out.o 3 _ rfl; rw [show (pil0 (lineN k)).l.length = k from lineN_len k] at this; exact this
      have O3 := Lib.hid o3
      obtain ⟨LA, lc, rfl⟩ := own_form o3
      clear o3
      have a6 : wo.cell? ⟨w1.heap.size + 1, 6, none⟩ = some (.slice LA k lc) := RowsH.cell HP.out 6
      have q6 := HP.out.c.lt
      have f6 := HP.out.c.free 6
      have i2 : IntKind.i64.wrap ((k : Int) + 1) = (k : Int) + 1 := IntWalk.i64_in _ (by omega)
      have zz := HP.out.z
      have hK := Lib.hid (fun (W' : World) (A4 : Option Addr) (c4 : Nat) (h1 : (wo.alloc (.cells #[.int .i64 (k : Int)] 3)).grownBy W' (Value.slice LA k lc).ownBlock) (h2 : W'.ownsRow w.heap.size 3 1 (.slice A4 (k + 1) c4) (k + 1) ((lineN k).map vInt ++ [vInt (k : Int)])) => RowsH.grow (RowsH.below HP.out ((Below.refl _ wo).alloc (Nat.le_refl _) (.cells #[.int .i64 (k : Int)] 3))) (i := 3) rfl h1 h2 6 rfl)
      have C4 := Lib.hid (fun (W' : World) (h1 : (wo.alloc (.cells #[.int .i64 (k : Int)] 3)).grownBy W' (Value.slice LA k lc).ownBlock) => (RowsH.below HP.out ((Below.refl _ wo).alloc (Nat.le_refl _) (.cells #[.int .i64 (k : Int)] 3))).c.same (h1.block _ (by simp; omega) (fun e => (RowsH.below HP.out ((Below.refl _ wo).alloc (Nat.le_refl _) (.cells #[.int .i64 (k : Int)] 3))).ne (i := 3) rfl e.symm)))
      go_wp2_with (at_builtin; refine wpList_app rfl (.tmp 34) (.tmp 36) _ rfl w.heap.size 3 (.int .i64 0) 1 8 Try.underlying39 infoInt rfl (by omega) (by omega) (.slice LA k lc) _ _ rfl (O3.out.alloc _) wo.heap.size [vInt (k : Int)] rfl rfl (news_new _ _ _) (one_int _ _) (by omega) (by simp; omega) ?_; intro g1 cap1 w3 hg1 hown1 hgrow1 hor1; have c4 := C4.out _ hgrow1; have c6 := c4.cell 6; have f6 := c4.free 6; have q4 := c4.lt)
      go_roundw
      case rel =>
        refine ⟨k + 1, .slice (some ⟨g1, 0, none⟩) (k + 1) cap1, by omega, rfl, ?_, ?_⟩
        · have h6 := hK.out w3 _ _ hgrow1 hown1
          have e1 := lineN_len (k + 1)
          have e2 : (lineN (k + 1)).map vInt = (lineN k).map vInt ++ [vInt (k : Int)] := by rw [lineN_succ]; simp
          show RowsH _ _ _ _ _ _
          unfold pilRows pil0
          simp only [e1, e2]
          exact h6
        · show Below _ _ _
          exact ((HBW.out.alloc (by have := HBW.out.size; omega) (.cells #[.int .i64 (k : Int)] 3)).grown hgrow1 (by simp; omega) (fun k hk => (O3.out.lt k hk).1)).setCell (p := ⟨w1.heap.size + 1, 6, none⟩) (by show _ ≤ w1.heap.size + 1; omega) _
      case measure => first | (simp [intOf]; done) | (simp [intOf]; omega)
    · obtain rfl : k = T2 := by omega
      have jk : ¬ (k : Int) < (k : Int) := by omega
      go_wp2
      go_ret2
      exact ⟨⟨_, _, _, _, _, _, _, rfl, HP.out⟩, HBW.out⟩
end Go.Proofs.Ytaenafcecfdffaa
/-
  Plain words of chapter 16: what a step does to a pillow.
-/
namespace Go.Proofs.Ytaenafcecfdffaa
open Go.RowKit
def Pil.crosses (z : Pil) (mid : Nat) (ns : List Int) : Nat → Pil
  | 0 => z
  | j + 1 => match ns[j]? with
    | none => z.crosses mid ns j
    | some n => (z.crosses mid ns j).cross (mkAt mid n).toNat (decide (0 < n))
def Pil.letter (z : Pil) (mid : Nat) (c : UInt8) : Pil := if c = 80 then z.stick mid false else z.crosses mid (crW [c] 1) (crW [c] 1).length
def Pil.letters (z : Pil) (mid : Nat) (bs : List UInt8) : Nat → Pil
  | 0 => z
  | k + 1 => match bs[k]? with
    | none => z.letters mid bs k
    | some c => (z.letters mid bs k).letter mid c
def Pil.note (z : Pil) (x : Wk) : Pil := { z with steps := z.steps ++ [x], marks := z.marks ++ [⟨z.hands, (z.works.length : Int), (z.xs.length : Int), (z.ps.length : Int)⟩] }
def Pil.work (z : Pil) (y : Wk) : Pil := { z with works := z.works ++ [y] }
def stepMid (x : Wk) : Nat := 2 * x.at_.toNat + 1
/-- a step that may be done -/
def Pil.step (z : Pil) (x : Wk) : Pil :=
  if x.kind = 1 then { z.note x with hands := x.at_ }
  else if x.kind = 3 then ((z.note x).stick (stepMid x) true).work ⟨2, x.at_, ⟨#[]⟩⟩
  else ((z.note x).letters (stepMid x) x.word.data.toList x.word.data.toList.length).work ⟨1, x.at_, x.word⟩
theorem Pil.crosses_succ {z : Pil} {mid : Nat} {ns : List Int} {j : Nat} {n : Int} (h : ns[j]? = some n) : z.crosses mid ns (j + 1) = (z.crosses mid ns j).cross (mkAt mid n).toNat (decide (0 < n)) := by
  show (match ns[j]? with | none => _ | some n => _) = _
  rw [h]
theorem Pil.letters_succ {z : Pil} {mid : Nat} {bs : List UInt8} {k : Nat} {c : UInt8} (h : bs[k]? = some c) : z.letters mid bs (k + 1) = (z.letters mid bs k).letter mid c := by
  show (match bs[k]? with | none => _ | some n => _) = _
  rw [h]
theorem Pil.crosses_all (z : Pil) (mid : Nat) (ns : List Int) : ∀ j, (z.crosses mid ns j).hands = z.hands ∧ (z.crosses mid ns j).works = z.works ∧ (z.crosses mid ns j).steps = z.steps ∧ (z.crosses mid ns j).marks = z.marks ∧ (z.crosses mid ns j).ps = z.ps ∧ (z.crosses mid ns j).l.length = z.l.length ∧ (z.crosses mid ns j).xs.length ≤ z.xs.length + j
  | 0 => ⟨rfl, rfl, rfl, rfl, rfl, rfl, Nat.le_refl _⟩
  | j + 1 => by
    obtain ⟨h1, h2, h3, h4, h5, h6, h7⟩ := Pil.crosses_all z mid ns j
    cases hn : ns[j]? with
    | none =>
      have e : z.crosses mid ns (j + 1) = z.crosses mid ns j := by
        show (match ns[j]? with | none => _ | some n => _) = _
        rw [hn]
      rw [e]
      exact ⟨h1, h2, h3, h4, h5, h6, by omega⟩
    | some n =>
      rw [Pil.crosses_succ hn]
      exact ⟨h1, h2, h3, h4, h5, by simpa [Pil.cross] using h6, by simp only [Pil.cross, List.length_append, List.length_singleton]; omega⟩
theorem Pil.letter_all (z : Pil) (mid : Nat) (c : UInt8) : (z.letter mid c).hands = z.hands ∧ (z.letter mid c).works = z.works ∧ (z.letter mid c).steps = z.steps ∧ (z.letter mid c).marks = z.marks ∧ (z.letter mid c).l.length = z.l.length ∧ (z.letter mid c).xs.length ≤ z.xs.length + 3 ∧ (z.letter mid c).ps.length ≤ z.ps.length + 1 := by
  unfold Pil.letter
  split
  · exact ⟨rfl, rfl, rfl, rfl, rfl, Nat.le_add_right _ _, by simp [Pil.stick]⟩
  · obtain ⟨h1, h2, h3, h4, h5, h6, h7⟩ := Pil.crosses_all z mid (crW [c] 1) (crW [c] 1).length
    have := crW_len [c] 1
    exact ⟨h1, h2, h3, h4, h6, by omega, by rw [h5]; exact Nat.le_add_right _ _⟩
theorem Pil.letters_all (z : Pil) (mid : Nat) (bs : List UInt8) : ∀ k, (z.letters mid bs k).hands = z.hands ∧ (z.letters mid bs k).works = z.works ∧ (z.letters mid bs k).steps = z.steps ∧ (z.letters mid bs k).marks = z.marks ∧ (z.letters mid bs k).l.length = z.l.length ∧ (z.letters mid bs k).xs.length ≤ z.xs.length + 3 * k ∧ (z.letters mid bs k).ps.length ≤ z.ps.length + k
  | 0 => ⟨rfl, rfl, rfl, rfl, rfl, Nat.le_refl _, Nat.le_refl _⟩
  | k + 1 => by
    obtain ⟨h1, h2, h3, h4, h5, h6, h7⟩ := Pil.letters_all z mid bs k
    cases hb : bs[k]? with
    | none =>
      have e : z.letters mid bs (k + 1) = z.letters mid bs k := by
        show (match bs[k]? with | none => _ | some n => _) = _
        rw [hb]
      rw [e]
      exact ⟨h1, h2, h3, h4, h5, by omega, by omega⟩
    | some c =>
      rw [Pil.letters_succ hb]
      obtain ⟨g1, g2, g3, g4, g5, g6, g7⟩ := Pil.letter_all (z.letters mid bs k) mid c
      exact ⟨g1.trans h1, g2.trans h2, g3.trans h3, g4.trans h4, g5.trans h5, by omega, by omega⟩
theorem cpE_zero {p s h : Int} {m : Nat} {x : Wk} (h0 : cpE p s h m x = 0) : shapeB x.kind x.word = true ∧ wchk x.word = 0 ∧ 0 ≤ x.at_ ∧ x.at_ ≤ p - 2 ∧ (x.kind = 1 → x.at_ ≤ p - s) ∧ (x.kind ≠ 1 → h ≤ x.at_ ∧ x.at_ + 2 ≤ h + s) := by
  unfold cpE at h0
  by_cases c1 : shapeB x.kind x.word = false
  · rw [if_pos c1] at h0; cases h0
  rw [if_neg c1] at h0
  by_cases c2 : wchk x.word ≠ 0
  · rw [if_pos c2] at h0; exact absurd h0 c2
  rw [if_neg c2] at h0
  by_cases c3 : x.at_ < 0 ∨ p - 2 < x.at_ ∨ (x.kind = 1 ∧ p - s < x.at_)
  · rw [if_pos c3] at h0; cases h0
  rw [if_neg c3] at h0
  by_cases c4 : x.kind ≠ 1 ∧ (x.at_ < h ∨ h + s ≤ x.at_ + 1)
  · rw [if_pos c4] at h0; cases h0
  refine ⟨by simpa using c1, by simpa using c2, by omega, by omega, fun hk => ?_, fun hk => ?_⟩
  · omega
  · omega
theorem cpAll_zero {p s h : Int} {m : Nat} {x : Wk} {l : List Wk} (h0 : cpAll p s h m (x :: l) = 0) : cpE p s h m x = 0 ∧ (x.kind = 1 → cpAll p s x.at_ m l = 0) := by
  unfold cpAll at h0
  by_cases c : cpE p s h m x ≠ 0
  · rw [if_pos c] at h0; exact absurd h0 c
  · rw [if_neg c] at h0
    exact ⟨by simpa using c, fun hk => by rw [if_pos hk] at h0; exact h0⟩
theorem pilE_zero {p s : Int} {z : Pil} {x : Wk} (h : pilE p s z x = 0) : (2 ≤ p ∧ p ≤ 24) ∧ (2 ≤ s ∧ s ≤ 8 ∧ s ≤ p) ∧ shapeB x.kind x.word = true ∧ wchk x.word = 0 ∧ 0 ≤ x.at_ ∧ x.at_ ≤ p - 2 ∧ (x.kind = 1 → x.at_ ≤ p - s) ∧ (x.kind ≠ 1 → z.works.length ≠ 400 ∧ 0 ≤ z.hands ∧ z.hands ≤ x.at_ ∧ x.at_ + 2 ≤ z.hands + s) := by
  unfold pilE at h
  by_cases c : csE p s (handL z.hands ++ [x]) ≠ 0
  · rw [if_pos c] at h; exact absurd h c
  rw [if_neg c] at h
  have c' : csE p s (handL z.hands ++ [x]) = 0 := by simpa using c
  have hm : x.kind ≠ 1 → z.works.length ≠ 400 := fun hk h4 => by rw [if_pos ⟨hk, h4⟩] at h; cases h
  unfold csE at c'
  by_cases c1 : p < 2 ∨ 24 < p ∨ spB p s = false
  · rw [if_pos c1] at c'; cases c'
  rw [if_neg c1] at c'
  have hsp : spB p s = true := by cases hq : spB p s with
    | true => rfl
    | false => exact absurd (.inr (.inr hq)) c1
  have hs : 2 ≤ s ∧ s ≤ 8 ∧ s ≤ p := of_decide_eq_true hsp
  have hlen : ¬ 1000 < (handL z.hands ++ [x]).length := by
    unfold handL; split <;> simp
  rw [if_neg hlen] at c'
  have hp : 2 ≤ p ∧ p ≤ 24 := by
    constructor
    · exact Int.not_lt.1 (fun hh => c1 (.inl hh))
    · exact Int.not_lt.1 (fun hh => c1 (.inr (.inl hh)))
  by_cases h0 : 0 ≤ z.hands
  · rw [show handL z.hands = [⟨1, z.hands, ⟨#[]⟩⟩] from if_pos h0] at c'
    obtain ⟨_, e2⟩ := cpAll_zero (show cpAll p s (-s) 0 (⟨1, z.hands, ⟨#[]⟩⟩ :: [x]) = 0 from c')
    obtain ⟨e3, _⟩ := cpAll_zero (e2 rfl)
    obtain ⟨q1, q2, q3, q4, q5, q6⟩ := cpE_zero e3
    exact ⟨hp, hs, q1, q2, q3, q4, q5, fun hk => ⟨hm hk, h0, q6 hk⟩⟩
  · rw [show handL z.hands = [] from if_neg h0] at c'
    obtain ⟨e3, _⟩ := cpAll_zero (show cpAll p s (-s) 0 (x :: []) = 0 from c')
    obtain ⟨q1, q2, q3, q4, q5, q6⟩ := cpE_zero e3
    refine ⟨hp, hs, q1, q2, q3, q4, q5, fun hk => ?_⟩
    have := q6 hk
    omega
end Go.Proofs.Ytaenafcecfdffaa
/-
  Plain law of PillowMakes: the instructions for a sheet may be done, and make it.
-/
namespace Go.Proofs.Ytaenafcecfdffaa
open Go.RowKit
theorem cpE_ok {p s h : Int} {m : Nat} {x : Wk} (h1 : shapeB x.kind x.word = true) (h2 : wchk x.word = 0) (h3 : 0 ≤ x.at_) (h4 : x.at_ ≤ p - 2) (h5 : x.kind = 1 → x.at_ ≤ p - s) (h6 : x.kind ≠ 1 → h ≤ x.at_ ∧ x.at_ + 2 ≤ h + s) (h7 : m ≠ 400) : cpE p s h m x = 0 := by
  obtain ⟨k, a, d⟩ := x
  simp only [] at h1 h2 h3 h4 h5 h6
  refine cpE_0 h1 h2 ?_ ?_ ?_
  · rintro (c | c | ⟨c1, c2⟩)
    · omega
    · omega
    · have := h5 c1; omega
  · rintro ⟨c1, c2⟩
    have := h6 c1; omega
  · rintro ⟨_, c2⟩
    exact h7 c2
/-- the hands lie nowhere, or where they may -/
def HandsOk (p s : Int) (h : Int) : Prop := h = -1 ∨ (0 ≤ h ∧ h ≤ p - s)
theorem pilE_ok {p s : Int} {z : Pil} {x : Wk} (hp : 2 ≤ p ∧ p ≤ 24) (hs : 2 ≤ s ∧ s ≤ 8 ∧ s ≤ p) (hh : HandsOk p s z.hands) (h1 : shapeB x.kind x.word = true) (h2 : wchk x.word = 0) (h3 : 0 ≤ x.at_) (h4 : x.at_ ≤ p - 2) (h5 : x.kind = 1 → x.at_ ≤ p - s) (h6 : x.kind ≠ 1 → z.works.length ≠ 400 ∧ 0 ≤ z.hands ∧ z.hands ≤ x.at_ ∧ x.at_ + 2 ≤ z.hands + s) : pilE p s z x = 0 := by
  have hc : csE p s (handL z.hands ++ [x]) = 0 := by
    unfold csE
    have hsp : spB p s = true := decide_eq_true hs
    rw [if_neg (by rw [hsp]; rintro (c | c | c); · omega
                   · omega
                   · cases c), if_neg (by unfold handL; split <;> simp)]
    by_cases h0 : 0 ≤ z.hands
    · rw [show handL z.hands = [⟨1, z.hands, ⟨#[]⟩⟩] from if_pos h0]
      have hr : z.hands ≤ p - s := by rcases hh with hh | hh <;> omega
      show cpAll p s (-s) 0 (⟨1, z.hands, ⟨#[]⟩⟩ :: [x]) = 0
      rw [cpAll_reach (by decide) (by decide) (by omega)]
      have e : cpE p s z.hands 0 x = 0 := cpE_ok h1 h2 h3 h4 h5 (fun hk => (h6 hk).2.2) (by decide)
      unfold cpAll
      rw [e, if_neg (by decide)]
      split <;> rfl
    · rw [show handL z.hands = [] from if_neg h0]
      show cpAll p s (-s) 0 (x :: []) = 0
      have e : cpE p s (-s) 0 x = 0 := cpE_ok h1 h2 h3 h4 h5 (fun hk => absurd (h6 hk).2.1 h0) (by decide)
      unfold cpAll
      rw [e, if_neg (by decide)]
      split <;> rfl
  unfold pilE
  rw [hc, if_neg (by decide), if_neg (fun c => (h6 c.1).1 c.2)]
theorem bestN_max (s : Int) (l : List Wk) : ∀ H h : Nat, h < H → runL (h : Nat) s l ≤ runL (bestN s l H : Nat) s l
  | 0, h, hh => by omega
  | H + 1, h, hh => by
    have ih := bestN_max s l H h
    unfold bestN
    split
    · rename_i hc
      by_cases e : h = H
      · subst e; exact Nat.le_refl _
      · have := ih (by omega); omega
    · rename_i hc
      by_cases e : h = H
      · subst e; omega
      · exact ih (by omega)
theorem best_held {p s : Int} {x : Wk} {l : List Wk} (hs : 2 ≤ s ∧ s ≤ 8 ∧ s ≤ p) (h3 : 0 ≤ x.at_) (h4 : x.at_ ≤ p - 2) : heldB (bestN s (x :: l) (p - s + 1).toNat : Nat) s x.at_ = true ∧ ((bestN s (x :: l) (p - s + 1).toNat : Nat) : Int) ≤ p - s := by
  obtain ⟨T, hT⟩ : ∃ T : Nat, p - s = (T : Int) := Int.eq_ofNat_of_zero_le (by omega)
  rw [show (p - s + 1).toNat = T + 1 by omega]
  have hle := bestN_lt s (x :: l) T
  refine ⟨?_, by omega⟩
  have hm := bestN_max s (x :: l) (T + 1) (if x.at_ ≤ (T : Int) then x.at_.toNat else T) (by split <;> omega)
  have h1 : heldB ((if x.at_ ≤ (T : Int) then x.at_.toNat else T : Nat) : Int) s x.at_ = true := by
    apply decide_eq_true
    split <;> omega
  have h2 : runL ((if x.at_ ≤ (T : Int) then x.at_.toNat else T : Nat) : Int) s (x :: l) = 1 + runL ((if x.at_ ≤ (T : Int) then x.at_.toNat else T : Nat) : Int) s l := if_pos h1
  cases hb : heldB (bestN s (x :: l) (T + 1) : Nat) s x.at_ with
  | true => rfl
  | false =>
    have h3 : runL (bestN s (x :: l) (T + 1) : Nat) s (x :: l) = 0 := if_neg (by rw [hb]; decide)
    omega
def goAll (p s : Int) : Pil → List Wk → Prop
  | _, [] => True
  | z, x :: r => pilE p s z x = 0 ∧ goAll p s (z.step x) r
theorem empty_of {s : ByteArray} (h : s.size = 0) : s = ⟨#[]⟩ := by
  obtain ⟨d⟩ := s
  congr
  exact Array.eq_empty_of_size_eq_zero h
theorem letters_works (z : Pil) (mid : Nat) (bs : List UInt8) (k : Nat) : (z.letters mid bs k).works = z.works ∧ (z.letters mid bs k).hands = z.hands := ⟨(Pil.letters_all z mid bs k).2.1, (Pil.letters_all z mid bs k).1⟩
/-- a work's step -/
theorem step_work (z : Pil) (p : Int) {x : Wk} (hg : wkBad p x = false) : (z.step (stepOf x)).works = z.works ++ [x] ∧ (z.step (stepOf x)).hands = z.hands := by
  obtain ⟨k, a, d⟩ := x
  unfold stepOf
  by_cases h2 : k = 2
  · subst h2
    have hd : d = ⟨#[]⟩ := by
      refine empty_of ?_
      unfold wkBad at hg
      simp at hg
      rw [hg.2]; rfl
    subst hd
    rw [if_pos rfl]
    unfold Pil.step
    rw [if_neg (show ¬ (3 : Int) = 1 by decide), if_pos rfl]
    exact ⟨rfl, rfl⟩
  · have h1 : k = 1 := by
      unfold wkBad at hg
      simp at hg
      omega
    subst h1
    rw [if_neg h2]
    unfold Pil.step
    rw [if_neg (show ¬ (2 : Int) = 1 by decide), if_neg (show ¬ (2 : Int) = 3 by decide)]
    obtain ⟨e1, e2⟩ := letters_works (z.note ⟨2, a, d⟩) (stepMid ⟨2, a, d⟩) d.data.toList d.data.toList.length
    exact ⟨by show ((z.note ⟨2, a, d⟩).letters _ _ _).works ++ _ = _; rw [e1]; rfl, e2⟩
theorem step_reach (z : Pil) (b : Int) : (z.step ⟨1, b, ⟨#[]⟩⟩).works = z.works ∧ (z.step ⟨1, b, ⟨#[]⟩⟩).hands = b := by
  unfold Pil.step
  rw [if_pos rfl]
  exact ⟨rfl, rfl⟩
theorem wkGood_at {p : Int} {x : Wk} (hg : wkBad p x = false) : 0 ≤ x.at_ ∧ x.at_ ≤ p - 2 := by
  unfold wkBad at hg
  simp at hg
  omega
theorem shape1 : shapeB 1 ⟨#[]⟩ = true := by decide
theorem shape3 : shapeB 3 ⟨#[]⟩ = true := by decide
theorem shape2 (d : ByteArray) : shapeB 2 d = true := by unfold shapeB; rw [if_neg (by decide)]; decide
theorem wchk0 : wchk ⟨#[]⟩ = 0 := by decide
theorem stepOf_ok {x : Wk} (hz : x.word.size ≤ 16) (hf : wOk x.word = true) : shapeB (stepOf x).kind (stepOf x).word = true ∧ wchk (stepOf x).word = 0 ∧ (stepOf x).at_ = x.at_ ∧ (stepOf x).kind ≠ 1 ∧ (stepOf x).word.size ≤ 16 := by
  unfold stepOf
  by_cases h2 : x.kind = 2
  · rw [if_pos h2]; exact ⟨shape3, wchk0, rfl, fun c => absurd (show (3 : Int) = 1 from c) (by decide), Nat.zero_le _⟩
  · rw [if_neg h2]; exact ⟨shape2 _, wchk_ok hz hf, rfl, fun c => absurd (show (2 : Int) = 1 from c) (by decide), hz⟩
theorem st_good {p s : Int} (hp : 2 ≤ p ∧ p ≤ 24) (hs : 2 ≤ s ∧ s ≤ 8 ∧ s ≤ p) : ∀ (l : List Wk) (z : Pil), HandsOk p s z.hands → (∀ x ∈ l, wkBad p x = false ∧ x.word.size ≤ 16 ∧ wOk x.word = true) → z.works.length + l.length ≤ 400 →
    goAll p s z (stAll p s z.hands l) ∧ ((stAll p s z.hands l).foldl Pil.step z).works = z.works ++ l
  | [], z, _, _, _ => ⟨trivial, (List.append_nil _).symm⟩
  | x :: l, z, hh, hv, hn => by
    obtain ⟨hg, hz, hf⟩ := hv x (List.mem_cons_self ..)
    obtain ⟨a0, a1⟩ := wkGood_at hg
    obtain ⟨s1, s2, s3, s4, _⟩ := stepOf_ok hz hf
    have hv' := fun y hy => hv y (List.mem_cons_of_mem _ hy)
    rw [List.length_cons] at hn
    have fin : ∀ z1 : Pil, HandsOk p s z1.hands → z1.works = z.works → heldB z1.hands s x.at_ = true → pilE p s z1 (stepOf x) = 0 ∧ goAll p s (z1.step (stepOf x)) (stAll p s z1.hands l) ∧ ((stAll p s z1.hands l).foldl Pil.step (z1.step (stepOf x))).works = z.works ++ (x :: l) := fun z1 hh1 hw hb => by
      have hb' : 0 ≤ z1.hands ∧ z1.hands ≤ x.at_ ∧ x.at_ + 2 ≤ z1.hands + s := of_decide_eq_true hb
      obtain ⟨w1, w2⟩ := step_work z1 p hg
      have ih := st_good hp hs l (z1.step (stepOf x)) (by rw [w2]; exact hh1) hv' (by rw [w1, hw, List.length_append, List.length_singleton]; omega)
      rw [w2] at ih
      refine ⟨pilE_ok hp hs hh1 s1 s2 (by rw [s3]; exact a0) (by rw [s3]; exact a1) (fun c => absurd c s4) (fun _ => ⟨by rw [hw]; omega, hb'.1, by rw [s3]; exact hb'.2⟩), ih.1, ?_⟩
      rw [ih.2, w1, hw, List.append_assoc]; rfl
    cases hb : heldB z.hands s x.at_ with
    | true =>
      rw [stAll_held hb]
      obtain ⟨f1, f2, f3⟩ := fin z hh rfl hb
      exact ⟨⟨f1, f2⟩, f3⟩
    | false =>
      rw [stAll_reach hb]
      obtain ⟨b1, b2⟩ := best_held (l := l) hs a0 a1
      generalize bestN s (x :: l) (p - s + 1).toNat = b at *
      obtain ⟨r1, r2⟩ := step_reach z (b : Int)
      have hh1 : HandsOk p s (z.step ⟨1, (b : Int), ⟨#[]⟩⟩).hands := by rw [r2]; exact .inr ⟨by omega, b2⟩
      obtain ⟨f1, f2, f3⟩ := fin (z.step ⟨1, (b : Int), ⟨#[]⟩⟩) hh1 r1 (by rw [r2]; exact b1)
      rw [r2] at f2 f3
      refine ⟨⟨pilE_ok hp hs hh shape1 wchk0 (by show 0 ≤ (b : Int); omega) (by show (b : Int) ≤ p - 2; omega) (fun _ => b2) (fun c => absurd rfl c), f1, f2⟩, f3⟩
end Go.Proofs.Ytaenafcecfdffaa
