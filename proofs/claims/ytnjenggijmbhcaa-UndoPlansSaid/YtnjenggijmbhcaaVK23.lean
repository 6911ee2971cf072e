/-
  Memory words for cloth.Make: what holds of the cloth's block, the line's block and the two rows between two steps.
-/
import Derived.Test.YtnjenggijmbhcaaVK1
import Derived.Test.YtnjenggijmbhcaaVK2
import Derived.Test.YtnjenggijmbhcaaVK3
import Derived.Test.YtnjenggijmbhcaaVK10
import Derived.Test.YtnjenggijmbhcaaVK20
import Derived.Test.YtnjenggijmbhcaaVK22
import Derived.BigQuiet
namespace Go.Proofs.Ytnjenggijmbhcaa
open Go.RowKit
theorem own_same {w w' : World} {base : Nat} {e : TypeId} {size n : Nat} {v : Value} {xs : List Value} (h : w.ownsRow base e size v n xs) (hs : ∀ g, v.ownBlock = some g → w'.heap[g]? = w.heap[g]?) : w'.ownsRow base e size v n xs := by
  refine ⟨h.1, ?_⟩
  rcases h.2 with hn | ⟨g, cap, cur, rfl, hb, hgg, rest⟩
  · exact .inl hn
  · exact .inr ⟨g, cap, cur, rfl, hb, (hs g rfl).trans hgg, rest⟩
theorem own_mono {w : World} {base base' : Nat} {e : TypeId} {size n : Nat} {v : Value} {xs : List Value} (h : w.ownsRow base e size v n xs) (hb : base' ≤ base) : w.ownsRow base' e size v n xs := by
  refine ⟨h.1, ?_⟩
  rcases h.2 with hn | ⟨g, cap, cur, rfl, hb2, rest⟩
  · exact .inl hn
  · exact .inr ⟨g, cap, cur, rfl, Nat.le_trans hb hb2, rest⟩
/-- a work's own blocks -/
structure MkJ (W : World) (bs gi gw gm : Nat) (i : Int) (x : Wk) (mid : Nat) : Prop where
  i : Has W gi 3 [.int .i64 i]
  w : Has W gw 26 (wkCells x)
  m : Has W gm 3 [.int .i64 (mid : Int)]
  li : bs ≤ gi
  lw : bs ≤ gw
  lm : bs ≤ gm
section
variable {V W W' : World} {gc gl bs : Nat} {t : Int} {s : Mk} {X P : Option Addr} {nx cx np cp : Nat} {gi gw gm : Nat} {i : Int} {x : Wk} {mid : Nat}
theorem MkJ.below (h : MkJ W bs gi gw gm i x mid) (k : Below W.heap.size W W') : MkJ W' bs gi gw gm i x mid :=
  ⟨h.i.below k h.i.lt, h.w.below k h.w.lt, h.m.below k h.m.lt, h.li, h.lw, h.lm⟩
end
/-! ### counts -/
theorem crT_len (v : List Int) : ∀ k, (crT v k).length ≤ k
  | 0 => Nat.le_refl _
  | k + 1 => by
    have := crT_len v k
    unfold crT
    split <;> simp <;> omega
theorem crW_len (bs : List UInt8) : ∀ i, (crW bs i).length ≤ 3 * i
  | 0 => Nat.le_refl _
  | i + 1 => by
    have := crW_len bs i
    unfold crW
    split
    · have := crT_len (twV ‹UInt8›) 3
      rw [List.length_append]; omega
    · omega
theorem crT_mem {v : List Int} (hv : ∀ u ∈ v, -1 ≤ u ∧ u ≤ 1) : ∀ k, k ≤ 3 → ∀ n ∈ crT v k, n ≠ 0 ∧ -3 ≤ n ∧ n ≤ 3
  | 0, _, n, h => by simp [crT] at h
  | k + 1, hk, n, h => by
    unfold crT at h
    split at h
    · exact crT_mem hv k (by omega) n h
    · rename_i h0
      rw [List.mem_append] at h
      rcases h with h | h
      · exact crT_mem hv k (by omega) n h
      · simp only [List.mem_singleton] at h
        have hb : -1 ≤ v.getD k 0 ∧ v.getD k 0 ≤ 1 := by
          rw [List.getD_eq_getElem?_getD]
          cases hg : v[k]? with
          | none => simp
          | some u => exact hv u (mem_of_get hg)
        generalize v.getD k 0 = u at *
        have hu : u = 1 ∨ u = -1 := by omega
        rcases hu with rfl | rfl <;> omega
theorem crL_mem (c : UInt8) : ∀ n ∈ crW [c] 1, n ≠ 0 ∧ -3 ≤ n ∧ n ≤ 3 := fun n h => by
  have e : crW [c] 1 = crT (twV c) 3 := rfl
  rw [e] at h
  exact crT_mem (twV_le c) 3 (Nat.le_refl _) n h
theorem Mk.crosses_xs (s : Mk) (i : Int) (mid : Nat) (ns : List Int) : ∀ k, (s.crosses i mid ns k).xs.length ≤ s.xs.length + k
  | 0 => Nat.le_refl _
  | k + 1 => by
    have := Mk.crosses_xs s i mid ns k
    unfold Mk.crosses
    split
    · unfold Mk.cross; simp; omega
    · omega
theorem Mk.crosses_ps (s : Mk) (i : Int) (mid : Nat) (ns : List Int) : ∀ k, (s.crosses i mid ns k).ps = s.ps
  | 0 => rfl
  | k + 1 => by
    unfold Mk.crosses
    split
    · exact Mk.crosses_ps s i mid ns k
    · exact Mk.crosses_ps s i mid ns k
theorem Mk.letter_xs (s : Mk) (i : Int) (mid : Nat) (c : UInt8) : (s.letter i mid c).xs.length ≤ s.xs.length + 3 := by
  unfold Mk.letter
  split
  · exact Nat.le_add_right _ _
  · have := Mk.crosses_xs s i mid (crW [c] 1) (crW [c] 1).length
    have := crW_len [c] 1
    omega
theorem Mk.letter_ps (s : Mk) (i : Int) (mid : Nat) (c : UInt8) : (s.letter i mid c).ps.length ≤ s.ps.length + 1 := by
  unfold Mk.letter
  split
  · unfold Mk.pin; simp
  · rw [Mk.crosses_ps]; exact Nat.le_succ _
theorem Mk.letters_xs (s : Mk) (i : Int) (mid : Nat) (bs : List UInt8) : ∀ k, (s.letters i mid bs k).xs.length ≤ s.xs.length + 3 * k
  | 0 => Nat.le_refl _
  | k + 1 => by
    have := Mk.letters_xs s i mid bs k
    unfold Mk.letters
    split
    · have := Mk.letter_xs (s.letters i mid bs k) i mid ‹UInt8›; omega
    · omega
theorem Mk.letters_ps (s : Mk) (i : Int) (mid : Nat) (bs : List UInt8) : ∀ k, (s.letters i mid bs k).ps.length ≤ s.ps.length + k
  | 0 => Nat.le_refl _
  | k + 1 => by
    have := Mk.letters_ps s i mid bs k
    unfold Mk.letters
    split
    · have := Mk.letter_ps (s.letters i mid bs k) i mid ‹UInt8›; omega
    · omega
theorem Mk.works_xs {ws : List Wk} (h : ∀ x ∈ ws, x.word.size ≤ 16) : ∀ k, (Mk.works ws k).xs.length ≤ 48 * k ∧ (Mk.works ws k).ps.length ≤ 17 * k
  | 0 => ⟨Nat.le_refl _, Nat.le_refl _⟩
  | k + 1 => by
    have ih := Mk.works_xs h k
    unfold Mk.works
    split
    · rename_i x hx
      have h16 : x.word.data.toList.length ≤ 16 := by rw [str_len]; exact h x (mem_of_get hx)
      unfold Mk.work
      split
      · have h1 := Mk.letters_xs ((Mk.works ws k).pin (k : Int) (mkMid x)) (k : Int) (mkMid x) x.word.data.toList x.word.data.toList.length
        have h2 := Mk.letters_ps ((Mk.works ws k).pin (k : Int) (mkMid x)) (k : Int) (mkMid x) x.word.data.toList x.word.data.toList.length
        have e1 : ((Mk.works ws k).pin (k : Int) (mkMid x)).xs.length = (Mk.works ws k).xs.length := rfl
        have e2 : ((Mk.works ws k).pin (k : Int) (mkMid x)).ps.length = (Mk.works ws k).ps.length + 1 := by unfold Mk.pin; simp
        omega
      · have h1 := Mk.letters_xs (Mk.works ws k) (k : Int) (mkMid x) x.word.data.toList x.word.data.toList.length
        have h2 := Mk.letters_ps (Mk.works ws k) (k : Int) (mkMid x) x.word.data.toList x.word.data.toList.length
        omega
    · omega
theorem Mk.works_succ {ws : List Wk} {k : Nat} {x : Wk} (h : ws[k]? = some x) : Mk.works ws (k + 1) = (Mk.works ws k).work k x := by
  show (match ws[k]? with | some x => (Mk.works ws k).work k x | none => Mk.works ws k) = _
  rw [h]
theorem Mk.letters_succ {s : Mk} {i : Int} {mid : Nat} {bs : List UInt8} {k : Nat} {c : UInt8} (h : bs[k]? = some c) : s.letters i mid bs (k + 1) = (s.letters i mid bs k).letter i mid c := by
  show (match bs[k]? with | some c => (s.letters i mid bs k).letter i mid c | none => s.letters i mid bs k) = _
  rw [h]
theorem Mk.crosses_succ {s : Mk} {i : Int} {mid : Nat} {ns : List Int} {k : Nat} {n : Int} (h : ns[k]? = some n) : s.crosses i mid ns (k + 1) = (s.crosses i mid ns k).cross i mid n := by
  show (match ns[k]? with | some n => (s.crosses i mid ns k).cross i mid n | none => s.crosses i mid ns k) = _
  rw [h]
theorem Mk.pin_eq {s : Mk} {i : Int} {mid : Nat} {la lb : Int} (ha : s.l[mid]? = some la) (hb : s.l[mid + 1]? = some lb) : s.pin i mid = { s with ps := s.ps ++ [⟨i, (mid : Int), la, lb⟩] } := by
  unfold Mk.pin
  rw [List.getD_eq_getElem?_getD, List.getD_eq_getElem?_getD, ha, hb]; rfl
theorem slice1 (s : ByteArray) (j : Nat) (h : j < s.size) (W : World) : (Instr.slice 9 (.string s) (some (.int .i64 (j : Int))) (some (.int .i64 ((j : Int) + 1))) none).run Try.prog W = .ok (.string (s.extract j (j + 1))) W := by
  have e := run_slice_string (P := Try.prog) (w := W) 9 s .i64 .i64 (j : Int) ((j : Int) + 1) Try.underlying9 (by omega) (by omega) (by omega)
  rw [e]
  have h1 : ((j : Int)).toNat = j := by omega
  have h2 : ((j : Int) + 1).toNat = j + 1 := by omega
  rw [h1, h2]
theorem ext_ok {s : ByteArray} {j : Nat} (h : j < s.size) (hl : isLet s[j] = true) : (s.extract j (j + 1)).size = 1 ∧ wOk (s.extract j (j + 1)) = true := by
  have e := ext_one s j h
  refine ⟨?_, ?_⟩
  · rw [← str_len, e]; rfl
  · unfold wOk; rw [e]; simp [hl]
theorem Mk.cross_eq {s : Mk} {i : Int} {mid t : Nat} {u la lb : Int} (h : mkAt mid u = (t : Int)) (ha : s.l[t]? = some la) (hb : s.l[t + 1]? = some lb) : s.cross i mid u = ⟨(s.l.set t lb).set (t + 1) la, s.xs ++ [if u < 0 then ⟨i, (t : Int), lb, la⟩ else ⟨i, (t : Int), la, lb⟩], s.ps⟩ := by
  have ht : ((t : Nat) : Int).toNat = t := by simp
  have e : mkX s.l i mid u = if u < 0 then ⟨i, (t : Int), lb, la⟩ else ⟨i, (t : Int), la, lb⟩ := by
    unfold mkX
    rw [h, ht, List.getD_eq_getElem?_getD, List.getD_eq_getElem?_getD, ha, hb]; rfl
  have e2 : (mkX s.l i mid u).b = (t : Int) := by rw [e]; split <;> rfl
  unfold Mk.cross swapL
  rw [e2, ht, List.getD_eq_getElem?_getD, List.getD_eq_getElem?_getD, ha, hb, e]; rfl
theorem news4 (w : World) (a b c d : Value) (t : TypeId) : ∀ j u, ([a, b, c, d] : List Value)[j]? = some u → (w.alloc (.cells #[a, b, c, d] t)).cell? ⟨w.heap.size, j, none⟩ = some u := fun j _ hu => ((Has.new (w := w) (t := t) (cs := [a, b, c, d]) rfl).cell j).trans hu
theorem one4 (a b c d : Int) : ∀ u ∈ [vInt a, vInt b, vInt c, vInt d], u.oneCell' = true := fun u hu => by
  simp only [List.mem_cons, List.not_mem_nil, or_false] at hu
  rcases hu with rfl | rfl | rfl | rfl <;> rfl
end Go.Proofs.Ytnjenggijmbhcaa
/-
  Contracts of chapter 16: whether hands can have a span, the shape of a step, whether a pillow was made.
-/
namespace Go.Proofs.Ytnjenggijmbhcaa
open Go.RowKit
def spB (p s : Int) : Bool := decide (2 ≤ s ∧ s ≤ 8 ∧ s ≤ p)
set_option maxRecDepth 100000 in
set_option maxHeartbeats 400000 in
theorem spansC (p s : Int) (w : World) : Calls Try.prog 87 #[.int .i64 p, .int .i64 s] w fun e w' => e = .returned (.bool (spB p s)) ∧ w = w' := by
  by_cases h1 : 2 ≤ s
  · by_cases h2 : s ≤ 8
    · by_cases h3 : s ≤ p
      · have e : spB p s = true := decide_eq_true ⟨h1, h2, h3⟩
        rw [e]
        clear e
        go_enter Try.func87, Try.ntmps87
        go_wp2
        all_goals go_ret
        all_goals exact ⟨by first | rfl | exact ret_bool (decide_eq_true (by omega)) | exact ret_bool (decide_eq_false (by omega)), rfl⟩
      · have e : spB p s = false := decide_eq_false (fun h => h3 h.2.2)
        rw [e]
        clear e
        go_enter Try.func87, Try.ntmps87
        go_wp2
        all_goals go_ret
        all_goals exact ⟨by first | rfl | exact ret_bool (decide_eq_true (by omega)) | exact ret_bool (decide_eq_false (by omega)), rfl⟩
    · have e : spB p s = false := decide_eq_false (fun h => h2 h.2.1)
      rw [e]
      clear e
      go_enter Try.func87, Try.ntmps87
      go_wp2
      all_goals go_ret
      all_goals exact ⟨by first | rfl | exact ret_bool (decide_eq_true (by omega)) | exact ret_bool (decide_eq_false (by omega)), rfl⟩
  · have e : spB p s = false := decide_eq_false (fun h => h1 h.1)
    rw [e]
    clear e
    go_enter Try.func87, Try.ntmps87
    go_wp2
    all_goals go_ret
    all_goals exact ⟨by first | rfl | exact ret_bool (decide_eq_true (by omega)) | exact ret_bool (decide_eq_false (by omega)), rfl⟩
set_option maxRecDepth 100000 in
set_option maxHeartbeats 400000 in
theorem spans15 (p s : Int) (w : World) : Calls Try.prog 69 #[.int .i64 p, .int .i64 s] w fun e w' => e = .returned (.bool (spB p s)) ∧ w = w' := by
  by_cases h1 : 2 ≤ s
  · by_cases h2 : s ≤ 8
    · by_cases h3 : s ≤ p
      · have e : spB p s = true := decide_eq_true ⟨h1, h2, h3⟩
        rw [e]
        clear e
        go_enter Try.func69, Try.ntmps69
        go_wp2
        go_ret
        exact ⟨rfl, rfl⟩
      · have e : spB p s = false := decide_eq_false (fun h => h3 h.2.2)
        rw [e]
        clear e
        go_enter Try.func69, Try.ntmps69
        go_wp2
        go_ret
        exact ⟨rfl, rfl⟩
    · have e : spB p s = false := decide_eq_false (fun h => h2 h.2.1)
      rw [e]
      clear e
      go_enter Try.func69, Try.ntmps69
      go_wp2
      go_ret
      exact ⟨rfl, rfl⟩
  · have e : spB p s = false := decide_eq_false (fun h => h1 h.1)
    rw [e]
    clear e
    go_enter Try.func69, Try.ntmps69
    go_wp2
    go_ret
    exact ⟨rfl, rfl⟩
def heldB (h s a : Int) : Bool := decide (0 ≤ h ∧ h ≤ a ∧ a + 2 ≤ h + s)
set_option maxRecDepth 100000 in
set_option maxHeartbeats 400000 in
theorem held15 (h s a : Int) (w : World) (hs : 0 ≤ s ∧ s ≤ 8) (ha : -1000 ≤ a ∧ a ≤ 1000) (hh : h ≤ 1000) : Calls Try.prog 71 #[.int .i64 h, .int .i64 s, .int .i64 a] w fun e w' => e = .returned (.bool (heldB h s a)) ∧ w = w' := by
  by_cases h1 : 0 ≤ h
  · by_cases h2 : h ≤ a
    · have i1 : IntKind.i64.wrap (a + 2) = a + 2 := IntWalk.i64_in _ (by omega)
      have i2 : IntKind.i64.wrap (h + s) = h + s := IntWalk.i64_in _ (by omega)
      by_cases h3 : a + 2 ≤ h + s
      · have e : heldB h s a = true := decide_eq_true ⟨h1, h2, h3⟩
        rw [e]
        clear e
        go_enter Try.func71, Try.ntmps71
        go_wp2
        go_ret
        exact ⟨rfl, rfl⟩
      · have e : heldB h s a = false := decide_eq_false (fun h => h3 h.2.2)
        rw [e]
        clear e
        go_enter Try.func71, Try.ntmps71
        go_wp2
        go_ret
        exact ⟨rfl, rfl⟩
    · have e : heldB h s a = false := decide_eq_false (fun h => h2 h.2.1)
      rw [e]
      clear e
      go_enter Try.func71, Try.ntmps71
      go_wp2
      go_ret
      exact ⟨rfl, rfl⟩
  · have e : heldB h s a = false := decide_eq_false (fun h => h1 h.1)
    rw [e]
    clear e
    go_enter Try.func71, Try.ntmps71
    go_wp2
    go_ret
    exact ⟨rfl, rfl⟩
def shapeB (k : Int) (s : ByteArray) : Bool := if k = 1 ∨ k = 3 then s.size == 0 else k == 2
set_option maxRecDepth 100000 in
set_option maxHeartbeats 400000 in
theorem shapedC (k a : Int) (s : ByteArray) (w : World) : Calls Try.prog 88 #[.agg #[.int .i64 k, .int .i64 a, .string s]] w fun e w' => e = .returned (.bool (shapeB k s)) ∧ Below w.heap.size w w' := by
  by_cases h1 : k = 1
  · subst h1
    go_enter Try.func88, Try.ntmps88
    go_wp2
    go_ret
    exact ⟨ret_bool empty_iff, by go_grown⟩
  by_cases h3 : k = 3
  · subst h3
    go_enter Try.func88, Try.ntmps88
    go_wp2
    go_ret
    exact ⟨ret_bool empty_iff, by go_grown⟩
  have e : shapeB k s = (k == 2) := by unfold shapeB; rw [if_neg (by omega)]
  rw [e]
  clear e
  go_enter Try.func88, Try.ntmps88
  go_wp2
  go_ret
  exact ⟨rfl, by go_grown⟩
end Go.Proofs.Ytnjenggijmbhcaa
/-
  Contracts of chapter 16: torchonref15's step, run, check.
-/
namespace Go.Proofs.Ytnjenggijmbhcaa
open Go.RowKit
def stepOf (x : Wk) : Wk := if x.kind = 2 then ⟨3, x.at_, ⟨#[]⟩⟩ else ⟨2, x.at_, x.word⟩
set_option maxRecDepth 100000 in
set_option maxHeartbeats 400000 in
theorem step15 (kd at_ : Int) (wd : ByteArray) (w : World) : Calls Try.prog 92 #[.agg #[.int .i64 kd, .int .i64 at_, .string wd]] w fun e w' => e = .returned (.agg #[.int .i64 (stepOf ⟨kd, at_, wd⟩).kind, .int .i64 (stepOf ⟨kd, at_, wd⟩).at_, .string (stepOf ⟨kd, at_, wd⟩).word]) ∧ Below w.heap.size w w' := by
  by_cases h : kd = 2
  · subst h
    go_enter Try.func92, Try.ntmps92
    go_wp2
    refine post_cell (cs := [.int .i64 3, .int .i64 at_, .string ⟨#[]⟩]) (g := w.heap.size + 1) (t := 64) ?_ rfl rfl rfl Try.underlying64 (by kernel_rfl) ⟨rfl, by go_grown⟩
    have := Has.new (w := w.alloc (.cells #[.int .i64 2, .int .i64 at_, .string wd] 26)) (t := 64) (cs := [.int .i64 3, .int .i64 at_, .string ⟨#[]⟩]) rfl
    rw [World.size_alloc] at this
    exact this
  · have e : stepOf ⟨kd, at_, wd⟩ = ⟨2, at_, wd⟩ := if_neg h
    have hk : (kd == 2) = false := by simpa using h
    rw [e]
    clear e h
    go_enter Try.func92, Try.ntmps92
    go_wp2
    refine post_cell (cs := [.int .i64 2, .int .i64 at_, .string wd]) (g := w.heap.size + 1) (t := 64) ?_ rfl rfl rfl Try.underlying64 (by kernel_rfl) ⟨rfl, by go_grown⟩
    have := Has.new (w := w.alloc (.cells #[.int .i64 kd, .int .i64 at_, .string wd] 26)) (t := 64) (cs := [.int .i64 2, .int .i64 at_, .string wd]) rfl
    rw [World.size_alloc] at this
    exact this
/-- how many works are in reach, one after the other -/
def runL (h s : Int) : List Wk → Nat
  | [] => 0
  | x :: l => if heldB h s x.at_ then 1 + runL h s l else 0
theorem drop_cons {α : Type} {l : List α} {k : Nat} {x : α} (h : l[k]? = some x) : l.drop k = x :: l.drop (k + 1) := List.drop_eq_getElem?_toList_append.trans (by rw [h]; rfl)
end Go.Proofs.Ytnjenggijmbhcaa
/-
  Contracts of torchonref15: SameSteps, Reaches, Hands, shaped, Work; the law's in.
-/
namespace Go.Proofs.Ytnjenggijmbhcaa
open Go.RowKit
theorem stHeld : Try.prog.stoodInHeld 64 = false := by kernel_rfl
theorem stGuard : Try.prog.eqGuardType Try.prog.depth 64 = false := by kernel_rfl
theorem neq_st (x y : Wk) (w : World) : (binOp .neq 64 (.agg #[.int .i64 x.kind, .int .i64 x.at_, .string x.word]) (.agg #[.int .i64 y.kind, .int .i64 y.at_, .string y.word])).run Try.prog w = .ok (.bool (!(x == y))) w := by
  have e1 := stHeld
  rw [wk_beq]
  cases h1 : x.kind == y.kind <;> cases h2 : x.at_ == y.at_ <;> cases h3 : x.word.toList == y.word.toList <;>
  simp [go_sem, e1, h1, h2, h3, Try.underlying64, Try.underlying3, Try.underlying9]
attribute [local go_sem 10000] neq_st
set_option maxRecDepth 100000 in
set_option maxHeartbeats 400000 in
theorem sameSt (A B : Option Addr) (n m c d : Nat) (xs ys : List Wk) (w : World) (hn : n ≤ 9223372036854775807) (hm : m ≤ 9223372036854775807) (hx : RdW w w.heap.size A xs) (hy : RdW w w.heap.size B ys) (hl : xs.length = n) (hl' : ys.length = m) :
    Calls Try.prog 32 #[.slice A n c, .slice B m d] w fun e w' => e = .returned (.bool (xs == ys)) ∧ Below w.heap.size w w' := by
  have HX := Lib.hid hx; clear hx
  have HY := Lib.hid hy; clear hy
  have HL := Lib.hid hl; clear hl
  have HM := Lib.hid hl'; clear hl'
  by_cases hnm : n = m
  · subst hnm
    go_enter Try.func32, Try.ntmps32
    go_wp2
    go_loopw [5] (fun i wr => ∃ k : Nat, k ≤ n ∧ i = .int .i64 k ∧ Below w.heap.size w wr ∧ (∀ (j : Nat) (x : Wk), j < k → xs[j]? = some x → ys[j]? = some x)) (fun i _ => n - (intOf i).toNat)
    case atStart => exact ⟨0, Nat.zero_le _, rfl, by go_grown, fun j _ hj => absurd hj (by omega)⟩
    case round =>
      obtain ⟨k, hk, rfl, hbw, hno⟩ := hrel
      have H := Lib.hid hno; clear hno
      by_cases hlt : k < n
      · obtain ⟨x, hx⟩ := get_of_lt (l := xs) (k := k) (by rw [HL.out]; exact hlt)
        obtain ⟨y, hy⟩ := get_of_lt (l := ys) (k := k) (by rw [HM.out]; exact hlt)
        obtain ⟨b, o, rfl, hb, c1, c2, c3⟩ := (HX.out.below hbw (Nat.le_refl _)) k x hx
        obtain ⟨b', o', rfl, hb', c1', c2', c3'⟩ := (HY.out.below hbw (Nat.le_refl _)) k y hy
        have HX' := Lib.hid hx; clear hx
        have HY' := Lib.hid hy; clear hy
        have e2 := stGuard
        go_wp2
        go_quiet (fail)
        go_wp2
        · go_ret
          exact ⟨ret_bool (beq_false (ne_of_get HX'.out HY'.out (by simpa using ‹(!x == y) = true›))), below_drewN hbw _⟩
        · go_roundw
          case rel => exact ⟨k + 1, by omega, by go_num, below_drewN hbw _, pw_step H.out HX'.out HY'.out (by simpa using ‹(!x == y) = false›)⟩
          case measure => simp [intOf]; omega
      · go_wp2
        go_ret
        exact ⟨ret_bool (beq_true (eq_of_get (by rw [HL.out, HM.out]) (fun j x hx => H.out j x (by have := lt_of_get hx; rw [HL.out] at this; omega) hx))), hbw⟩
  · go_enter Try.func32, Try.ntmps32
    go_wp2
    go_ret
    exact ⟨ret_bool (beq_false (ne_of_len HL.out HM.out hnm)), by go_grown⟩
/-- how many reaches there are -/
def reachN (l : List Wk) : Nat := (l.filter fun x => x.kind == 1).length
theorem reachN_le (l : List Wk) : reachN l ≤ l.length := List.length_filter_le _ _
theorem reachN_take {l : List Wk} {k : Nat} {x : Wk} (h : l[k]? = some x) : reachN (l.take (k + 1)) = reachN (l.take k) + if x.kind = 1 then 1 else 0 := by
  unfold reachN
  rw [List.take_add_one, h, Option.toList_some, List.filter_append, List.length_append]
  congr 1
  rw [List.filter_cons, List.filter_nil]
  by_cases e : x.kind = 1
  · rw [if_pos e, if_pos (by simpa using e)]; rfl
  · rw [if_neg e, if_neg (by simpa using e)]; rfl
set_option maxRecDepth 100000 in
set_option maxHeartbeats 400000 in
theorem reaches15 (A : Option Addr) (n c : Nat) (xs : List Wk) (w : World) (hn : n ≤ 1000000000) (hx : RdW w w.heap.size A xs) (hl : xs.length = n) :
    Calls Try.prog 27 #[.slice A n c] w fun e w' => e = .returned (.int .i64 (reachN xs : Nat)) ∧ w = w' := by
  have HX := Lib.hid hx; clear hx
  have HL := Lib.hid hl; clear hl
  go_enter Try.func27, Try.ntmps27
  go_wp2
  go_loop [3, 4] (fun s i => ∃ k r : Nat, k ≤ n ∧ r ≤ k ∧ i = .int .i64 k ∧ s = .int .i64 (r : Int) ∧ Hid (r = reachN (xs.take k))) (fun _ i => n - (intOf i).toNat)
  case atStart => exact ⟨0, 0, Nat.zero_le _, Nat.le_refl _, rfl, rfl, rfl⟩
  case round =>
    obtain ⟨k, r, hk, hrk, rfl, rfl, HR⟩ := hrel
    by_cases hlt : k < n
    · obtain ⟨x, hx⟩ := get_of_lt (l := xs) (k := k) (by rw [HL.out]; exact hlt)
      obtain ⟨b, o, rfl, hb, c1, c2, c3⟩ := HX.out k x hx
      have HT := Lib.hid (reachN_take hx)
      clear hx
      have i1 : IntKind.i64.wrap ((r : Int) + 1) = (r : Int) + 1 := IntWalk.i64_in _ (by omega)
      by_cases h1 : x.kind = 1
      · rw [h1] at c1
        go_wp2
        go_round
        case rel => exact ⟨k + 1, r + 1, by omega, by omega, by go_num, by go_num, by show _ = _; rw [HT.out, if_pos h1, HR.out]⟩
        case measure => simp [intOf]; omega
      · have h1' : (x.kind == 1) = false := by simpa using h1
        go_wp2
        go_round
        case rel => exact ⟨k + 1, r, by omega, by omega, by go_num, rfl, by show _ = _; rw [HT.out, if_neg h1, HR.out]; rfl⟩
        case measure => simp [intOf]; omega
    · obtain rfl : k = n := by omega
      go_wp2
      go_ret
      exact ⟨ret_int (by rw [HR.out, List.take_of_length_le (by rw [HL.out]; exact Nat.le_refl _)]), rfl⟩
/-- the error of a number of pairs and a span -/
def handsE (p s : Int) : Int := if p < 2 ∨ 24 < p ∨ spB p s = false then 7 else 0
set_option maxRecDepth 100000 in
set_option maxHeartbeats 400000 in
theorem hands15 (p s : Int) (w : World) : Calls Try.prog 47 #[.int .i64 p, .int .i64 s] w fun e w' => e = .returned (.int .i64 (handsE p s)) ∧ w = w' := by
  by_cases h1 : p < 2
  · rw [show handsE p s = 7 from if_pos (.inl h1)]
    go_enter Try.func47, Try.ntmps47
    go_wp2
    go_ret
    exact ⟨rfl, rfl⟩
  by_cases h2 : 24 < p
  · rw [show handsE p s = 7 from if_pos (.inr (.inl h2))]
    go_enter Try.func47, Try.ntmps47
    go_wp2
    go_ret
    exact ⟨rfl, rfl⟩
  cases h3 : spB p s with
  | false =>
    rw [show handsE p s = 7 from if_pos (.inr (.inr h3))]
    have H3 := Lib.hid h3; clear h3
    go_enter Try.func47, Try.ntmps47
    go_wp2_with fail
    refine (spans15 _ _ _).mono ?_
    rintro e w1 ⟨rfl, rfl⟩
    rw [H3.out]
    go_wp2
    go_ret
    exact ⟨rfl, rfl⟩
  | true =>
    rw [show handsE p s = 0 from if_neg (by rw [h3]; simp; omega)]
    have H3 := Lib.hid h3; clear h3
    go_enter Try.func47, Try.ntmps47
    go_wp2_with fail
    refine (spans15 _ _ _).mono ?_
    rintro e w1 ⟨rfl, rfl⟩
    rw [H3.out]
    go_wp2
    go_ret
    exact ⟨rfl, rfl⟩
set_option maxRecDepth 100000 in
set_option maxHeartbeats 400000 in
theorem shaped15 (k a : Int) (s : ByteArray) (w : World) : Calls Try.prog 70 #[.agg #[.int .i64 k, .int .i64 a, .string s]] w fun e w' => e = .returned (.bool (shapeB k s)) ∧ Below w.heap.size w w' := by
  by_cases h2 : k = 2
  · subst h2
    rw [show shapeB 2 s = true from rfl]
    go_enter Try.func70, Try.ntmps70
    go_wp2
    go_ret
    exact ⟨rfl, by go_grown⟩
  have n2 : (k == 2) = false := by simpa using h2
  by_cases h1 : k = 1
  · subst h1
    go_enter Try.func70, Try.ntmps70
    go_wp2
    all_goals go_ret
    all_goals exact ⟨ret_bool empty_iff, by go_grown⟩
  by_cases h3 : k = 3
  · subst h3
    go_enter Try.func70, Try.ntmps70
    go_wp2
    all_goals go_ret
    all_goals exact ⟨ret_bool empty_iff, by go_grown⟩
  have e : shapeB k s = false := by unfold shapeB; rw [if_neg (by omega)]; exact n2
  have n1 : (k == 1) = false := by simpa using h1
  have n3 : (k == 3) = false := by simpa using h3
  rw [e]
  clear e
  go_enter Try.func70, Try.ntmps70
  go_wp2
  all_goals go_ret
  all_goals exact ⟨rfl, by go_grown⟩
/-- the work of a step that is no reach -/
def workOf (x : Wk) : Wk := if x.kind = 3 then ⟨2, x.at_, ⟨#[]⟩⟩ else ⟨1, x.at_, x.word⟩
set_option maxRecDepth 100000 in
set_option maxHeartbeats 400000 in
theorem work15 (k a : Int) (s : ByteArray) (w : World) : Calls Try.prog 49 #[.agg #[.int .i64 k, .int .i64 a, .string s]] w fun e w' => e = .returned (.agg #[.int .i64 (workOf ⟨k, a, s⟩).kind, .int .i64 (workOf ⟨k, a, s⟩).at_, .string (workOf ⟨k, a, s⟩).word]) ∧ Below w.heap.size w w' := by
  by_cases h3 : k = 3
  · subst h3
    rw [show workOf ⟨3, a, s⟩ = ⟨2, a, ⟨#[]⟩⟩ from rfl]
    go_enter Try.func49, Try.ntmps49
    go_wp2
    refine post_cell (cs := [.int .i64 2, .int .i64 a, .string ⟨#[]⟩]) (g := w.heap.size + 1) (t := 26) ?_ rfl rfl rfl Try.underlying26 (by kernel_rfl) ⟨rfl, by go_grown⟩
    have := Has.new (w := w.alloc (.cells #[.int .i64 3, .int .i64 a, .string s] 64)) (t := 26) (cs := [.int .i64 2, .int .i64 a, .string ⟨#[]⟩]) rfl
    rw [World.size_alloc] at this
    exact this
  · rw [show workOf ⟨k, a, s⟩ = ⟨1, a, s⟩ from if_neg h3]
    have n3 : (k == 3) = false := by simpa using h3
    go_enter Try.func49, Try.ntmps49
    go_wp2
    refine post_cell (cs := [.int .i64 1, .int .i64 a, .string s]) (g := w.heap.size + 1) (t := 26) ?_ rfl rfl rfl Try.underlying26 (by kernel_rfl) ⟨rfl, by go_grown⟩
    have := Has.new (w := w.alloc (.cells #[.int .i64 k, .int .i64 a, .string s] 64)) (t := 26) (cs := [.int .i64 1, .int .i64 a, .string s]) rfl
    rw [World.size_alloc] at this
    exact this
set_option maxRecDepth 100000 in
set_option maxHeartbeats 400000 in
theorem in28 (A : Option Addr) (n c : Nat) (xs : List Int) (v : Int) (w : World) (hn : n ≤ 9223372036854775807) (hx : RdI w w.heap.size A xs) (hl : xs.length = n) :
    Calls Try.prog 25 #[.slice A n c, .int .i64 v] w fun e w' => e = .returned (.bool (decide (v ∈ xs))) ∧ w = w' := by
  have HX := Lib.hid hx; clear hx
  have HL := Lib.hid hl; clear hl
  go_enter Try.func25, Try.ntmps25
  go_wp2
  go_loop [5] (fun i => ∃ k : Nat, k ≤ n ∧ i = .int .i64 k ∧ Hid (∀ j x, j < k → xs[j]? = some x → x ≠ v)) (fun i => n - (intOf i).toNat)
  case atStart => exact ⟨0, Nat.zero_le _, rfl, fun j _ hj => absurd hj (by omega)⟩
  case round =>
    obtain ⟨k, hk, rfl, HN⟩ := hrel
    by_cases hlt : k < n
    · obtain ⟨x, hx⟩ := get_of_lt (l := xs) (k := k) (by rw [HL.out]; exact hlt)
      obtain ⟨b, o, rfl, hb, c1⟩ := HX.out k x hx
      have HX' := Lib.hid hx; clear hx
      by_cases e : x = v
      · subst e
        go_wp2
        go_ret
        exact ⟨ret_bool (by symm; exact decide_eq_true (mem_of_get HX'.out)), rfl⟩
      · have e' : (x == v) = false := by simpa using e
        go_wp2
        go_round
        case rel => exact ⟨k + 1, by omega, by go_num, fun j y hj hy => by
          rcases Nat.lt_or_ge j k with h | h
          · exact HN.out j y h hy
          · obtain rfl : j = k := by omega
            rw [HX'.out] at hy
            obtain rfl := Option.some.inj hy
            exact e⟩
        case measure => simp [intOf]; omega
    · go_wp2
      go_ret
      exact ⟨ret_bool (by
        symm
        refine decide_eq_false (fun hc => ?_)
        obtain ⟨j, hj⟩ := List.getElem?_of_mem hc
        exact HN.out j v (by have := lt_of_get hj; rw [HL.out] at this; omega) hj rfl), rfl⟩
end Go.Proofs.Ytnjenggijmbhcaa
