/-
  Plain law of nets: what two orders of the same lace have in common (what lies in each two neighbouring places), and that the net keeps to it. No program in sight.
-/
import Derived.Test.YtnjenggijmbhcaaNet
namespace Go.Proofs.Ytnjenggijmbhcaa
theorem snocRec {α : Type} {motive : List α → Prop} (nil : motive []) (append_singleton : ∀ (l : List α) (x : α), motive l → motive (l ++ [x])) (l : List α) : motive l := by
  have h : ∀ r : List α, motive r.reverse := fun r => by
    induction r with
    | nil => exact nil
    | cons x r ih => rw [List.reverse_cons]; exact append_singleton _ _ ih
  have := h l.reverse
  rwa [List.reverse_reverse] at this
theorem touch_symm (a b : Int) : touch a b = touch b a := by
  unfold touch; rw [Bool.and_comm]
theorem touch_self (a : Int) : touch a a = true := by unfold touch; simp
theorem undoW_at (x : Wk) : (undoW x).at_ = x.at_ := rfl
/-- the works in the places i and i + 1 -/
def atp (i : Int) (x : Wk) : Bool := x.at_ == i || x.at_ == i + 1
theorem atp_touch {i : Int} {x y : Wk} (hx : atp i x = true) (hy : atp i y = true) : touch x.at_ y.at_ = true := by
  unfold atp at hx hy; unfold touch
  simp only [Bool.or_eq_true, beq_iff_eq, Bool.and_eq_true, decide_eq_true_eq] at *
  omega
theorem touch_atp {x y : Wk} (h : touch x.at_ y.at_ = true) : atp (y.at_ - 1) x = true ∨ atp y.at_ x = true := by
  unfold atp; unfold touch at h
  simp only [Bool.or_eq_true, beq_iff_eq, Bool.and_eq_true, decide_eq_true_eq] at *
  omega
theorem atp_self (x : Wk) : atp x.at_ x = true := by unfold atp; simp
theorem atp_self' (x : Wk) : atp (x.at_ - 1) x = true := by unfold atp; simp
theorem atp_iff (i : Int) (x : Wk) : atp i x = true ↔ i = x.at_ - 1 ∨ i = x.at_ := by
  unfold atp; simp only [Bool.or_eq_true, beq_iff_eq]; omega
def proj (i : Int) (l : List Wk) : List Wk := l.filter (atp i)
/-- the same lace: the same works in the same order in each two neighbouring places -/
def Alike (u v : List Wk) : Prop := ∀ i, proj i u = proj i v
theorem Alike.refl (u : List Wk) : Alike u u := fun _ => rfl
theorem Alike.symm {u v : List Wk} (h : Alike u v) : Alike v u := fun i => (h i).symm
theorem Alike.trans {u v x : List Wk} (h : Alike u v) (k : Alike v x) : Alike u x := fun i => (h i).trans (k i)
theorem proj_app (i : Int) (u v : List Wk) : proj i (u ++ v) = proj i u ++ proj i v := by simp [proj]
theorem proj_cons (i : Int) (x : Wk) (v : List Wk) : proj i (x :: v) = if atp i x then x :: proj i v else proj i v := by simp [proj, List.filter_cons]
theorem Alike.app {u v x y : List Wk} (h : Alike u v) (k : Alike x y) : Alike (u ++ x) (v ++ y) := fun i => by rw [proj_app, proj_app, h i, k i]
/-- free of whatever touches x -/
def Free (l : List Wk) (a : Int) : Prop := ∀ z ∈ l, touch z.at_ a = false
theorem proj_free {l : List Wk} {x : Wk} (h : Free l x.at_) {i : Int} (hi : atp i x = true) : proj i l = [] := by
  unfold proj
  rw [List.filter_eq_nil_iff]
  intro z hz hz'
  have := atp_touch hz' hi
  rw [h z hz] at this; cases this
theorem free_swap {l : List Wk} {x : Wk} (h : Free l x.at_) : Alike (l ++ [x]) (x :: l) := fun i => by
  rw [proj_app, proj_cons, proj_cons]
  cases hi : atp i x with
  | true => rw [proj_free h hi]; simp [proj]
  | false => simp [proj]
theorem swap2 {u v : Wk} (h : touch u.at_ v.at_ = false) : Alike [u, v] [v, u] :=
  free_swap (l := [u]) (x := v) (fun z hz => by simp at hz; subst hz; exact h)
theorem alike_nil {l : List Wk} (h : Alike l []) : l = [] := by
  cases l with
  | nil => rfl
  | cons x l =>
    have := h x.at_
    rw [proj_cons, if_pos (atp_self x)] at this
    cases this
/-! ### a step of the net -/
theorem lastPos_app (l : List Wk) (z : List Wk) (a : Int) : ∀ m, m ≤ l.length → lastPos (l ++ z) a m = lastPos l a m
  | 0, _ => rfl
  | m + 1, h => by
    unfold lastPos
    rw [lastPos_app l z a m (by omega)]
    have : wat (l ++ z) m = wat l m := by unfold wat; rw [List.getElem?_append_left (by omega)]
    rw [this]
theorem last_split (a : Int) (l : List Wk) : (Free l a ∧ lastPos l a l.length = -1) ∨ ∃ l1 z l2, l = l1 ++ z :: l2 ∧ touch z.at_ a = true ∧ Free l2 a ∧ lastPos l a l.length = l1.length := by
  induction l using snocRec with
  | nil => exact .inl ⟨fun z hz => by simp at hz, rfl⟩
  | append_singleton l x ih =>
    have hw : wat (l ++ [x]) l.length = x.at_ := wat_get (by simp)
    have hl : lastPos (l ++ [x]) a (l ++ [x]).length = if touch x.at_ a then (l.length : Int) else lastPos l a l.length := by
      rw [List.length_append, List.length_singleton]
      show (if touch (wat (l ++ [x]) l.length) a then (l.length : Int) else lastPos (l ++ [x]) a l.length) = _
      rw [hw, lastPos_app _ _ _ _ (Nat.le_refl _)]
    cases hx : touch x.at_ a with
    | true =>
      refine .inr ⟨l, x, [], by simp, hx, fun z hz => by simp at hz, ?_⟩
      rw [hl, if_pos hx]
    | false =>
      rw [hx] at hl
      rcases ih with ⟨h1, h2⟩ | ⟨l1, z, l2, h1, h2, h3, h4⟩
      · refine .inl ⟨fun z hz => ?_, by rw [hl]; simpa using h2⟩
        rcases List.mem_append.1 hz with hz | hz
        · exact h1 z hz
        · simp at hz; subst hz; exact hx
      · refine .inr ⟨l1, z, l2 ++ [x], by rw [h1]; simp, h2, fun y hy => ?_, by rw [hl]; simpa using h4⟩
        rcases List.mem_append.1 hy with hy | hy
        · exact h3 y hy
        · simp at hy; subst hy; exact hx
/-- x finds its undoing last -/
def canc (l : List Wk) (x : Wk) : Prop := (l.filter (fun z => touch z.at_ x.at_)).getLast? = some (undoW x)
theorem filter_free {l : List Wk} {a : Int} (h : Free l a) : l.filter (fun z => touch z.at_ a) = [] := by
  rw [List.filter_eq_nil_iff]; intro z hz hz'; rw [h z hz] at hz'; cases hz'
theorem canc_split {l1 l2 : List Wk} {z x : Wk} (ht : touch z.at_ x.at_ = true) (h : Free l2 x.at_) : canc (l1 ++ z :: l2) x ↔ z = undoW x := by
  unfold canc
  rw [List.filter_append, List.filter_cons, if_pos ht, filter_free h]
  simp
theorem canc_free {l : List Wk} {x : Wk} (h : Free l x.at_) : ¬ canc l x := by
  unfold canc; rw [filter_free h]; simp
/-- what a step does -/
theorem step_split (l : List Wk) (x : Wk) : (¬ canc l x ∧ netStep l x = l ++ [x]) ∨ ∃ l1 l2, l = l1 ++ undoW x :: l2 ∧ Free l2 x.at_ ∧ canc l x ∧ netStep l x = l1 ++ l2 := by
  rcases last_split x.at_ l with ⟨h1, h2⟩ | ⟨l1, z, l2, h1, h2, h3, h4⟩
  · refine .inl ⟨canc_free h1, ?_⟩
    unfold netStep; rw [h2, if_neg (by simp)]
  · have hget : l[l1.length]? = some z := by rw [h1]; simp
    by_cases hz : z = undoW x
    · subst hz
      refine .inr ⟨l1, l2, h1, h3, by rw [h1]; exact (canc_split h2 h3).2 rfl, ?_⟩
      unfold netStep; rw [h4, if_pos ⟨by omega, by simpa using hget⟩]
      rw [h1]
      simp [List.eraseIdx_append_of_length_le]
    · refine .inl ⟨by rw [h1]; exact fun h => hz ((canc_split h2 h3).1 h), ?_⟩
      unfold netStep; rw [h4, if_neg]
      rintro ⟨_, h⟩
      rw [show ((l1.length : Int)).toNat = l1.length by simp, hget] at h
      injection h with h; exact hz h
/-- the same step, on what lies in each two neighbouring places -/
def fcanc (F : Int → List Wk) (x : Wk) : Prop := (F (x.at_ - 1)).getLast? = some (undoW x) ∧ (F x.at_).getLast? = some (undoW x)
open Classical in
noncomputable def fstep (F : Int → List Wk) (x : Wk) : Int → List Wk := fun i =>
  if atp i x then (if fcanc F x then (F i).dropLast else F i ++ [x]) else F i
theorem fcanc_proj (l : List Wk) (x : Wk) : fcanc (fun i => proj i l) x ↔ canc l x := by
  rcases last_split x.at_ l with ⟨h1, _⟩ | ⟨l1, z, l2, h1, h2, h3, _⟩
  · refine ⟨fun h => ?_, fun h => (canc_free h1 h).elim⟩
    have := h.2
    simp only [proj_free h1 (atp_self x)] at this; cases this
  · subst h1
    rw [canc_split h2 h3]
    have e1 : proj (x.at_ - 1) l2 = [] := proj_free h3 (atp_self' x)
    have e2 : proj x.at_ l2 = [] := proj_free h3 (atp_self x)
    constructor
    · rintro ⟨c1, c2⟩
      simp only [proj_app, proj_cons, e1, e2] at c1 c2
      rcases touch_atp h2 with h | h
      · rw [if_pos h] at c1; simpa using c1
      · rw [if_pos h] at c2; simpa using c2
    · rintro rfl
      refine ⟨?_, ?_⟩
      · simp only [proj_app, proj_cons, e1]
        rw [if_pos (show atp (x.at_ - 1) (undoW x) = true from atp_self' x)]; simp
      · simp only [proj_app, proj_cons, e2]
        rw [if_pos (show atp x.at_ (undoW x) = true from atp_self x)]; simp
theorem proj_step (l : List Wk) (x : Wk) : (fun i => proj i (netStep l x)) = fstep (fun i => proj i l) x := by
  funext i
  unfold fstep
  rcases step_split l x with ⟨h1, h2⟩ | ⟨l1, l2, h1, h2, h3, h4⟩
  · rw [if_neg (fun h => h1 ((fcanc_proj l x).1 h)), h2, proj_app, proj_cons]
    split <;> simp [proj]
  · rw [if_pos ((fcanc_proj l x).2 h3), h4, h1]
    have ha : atp i (undoW x) = atp i x := rfl
    simp only [proj_app, proj_cons, ha]
    cases hi : atp i x with
    | true => simp [proj_free h2 hi]
    | false => simp
theorem alike_step {u v : List Wk} (h : Alike u v) (x : Wk) : Alike (netStep u x) (netStep v x) := fun i => by
  have e : (fun i => proj i u) = (fun i => proj i v) := funext h
  have := congrFun ((proj_step u x).trans ((congrArg (fun F => fstep F x) e).trans (proj_step v x).symm)) i
  exact this
open Classical in
theorem fstep_comm {F : Int → List Wk} {u v : Wk} (h : touch u.at_ v.at_ = false) : fstep (fstep F u) v = fstep (fstep F v) u := by
  have no : ∀ i, atp i u = true → atp i v = true → False := fun i hu hv => by
    have := atp_touch hu hv; rw [h] at this; cases this
  have c1 : fcanc (fstep F u) v ↔ fcanc F v := by
    unfold fcanc fstep
    rw [if_neg (fun h => no _ h (atp_self' v)), if_neg (fun h => no _ h (atp_self v))]
  have c2 : fcanc (fstep F v) u ↔ fcanc F u := by
    unfold fcanc fstep
    rw [if_neg (fun h => no _ (atp_self' u) h), if_neg (fun h => no _ (atp_self u) h)]
  funext i
  show (if atp i v then (if fcanc (fstep F u) v then (fstep F u i).dropLast else fstep F u i ++ [v]) else fstep F u i) = (if atp i u then (if fcanc (fstep F v) u then (fstep F v i).dropLast else fstep F v i ++ [u]) else fstep F v i)
  simp only [c1, c2]
  unfold fstep
  cases hu : atp i u with
  | true =>
    cases hv : atp i v with
    | true => exact (no i hu hv).elim
    | false => simp
  | false => cases hv : atp i v <;> simp
theorem step_comm (l : List Wk) {u v : Wk} (h : touch u.at_ v.at_ = false) : Alike (netStep (netStep l u) v) (netStep (netStep l v) u) := fun i => by
  have := congrFun ((proj_step (netStep l u) v).trans (((congrArg (fun F => fstep F v) (proj_step l u)).trans (fstep_comm h)).trans ((congrArg (fun F => fstep F u) (proj_step l v)).symm.trans (proj_step (netStep l v) u).symm))) i
  exact this
/-! ### lists without a work that finds its undoing -/
def Red (l : List Wk) : Prop := ∀ l1 y l2, l = l1 ++ y :: l2 → ¬ canc l1 y
theorem red_nil : Red [] := fun l1 y l2 h => by simp at h
theorem red_app {l : List Wk} {x : Wk} (h : Red l) (hx : ¬ canc l x) : Red (l ++ [x]) := fun l1 y l2 e => by
  rcases List.append_eq_append_iff.1 e with ⟨a', h1, h2⟩ | ⟨c', h1, h2⟩
  · cases a' with
    | nil => simp at h1 h2; rw [h1, ← h2.1]; exact hx
    | cons b a' => simp at h2
  · cases c' with
    | nil => simp at h1 h2; rw [← h1, h2.1]; exact hx
    | cons b c' =>
      simp at h2
      rw [← h2.1] at h1
      exact h _ _ _ h1
theorem canc_drop {p q : List Wk} {u y : Wk} (h : touch u.at_ y.at_ = false) : canc (p ++ u :: q) y ↔ canc (p ++ q) y := by
  unfold canc
  simp [h]
theorem red_drop {p q : List Wk} {u : Wk} (h : Red (p ++ u :: q)) (hq : Free q u.at_) : Red (p ++ q) := fun l1 y l2 e => by
  rcases List.append_eq_append_iff.1 e with ⟨a', h1, h2⟩ | ⟨c', h1, h2⟩
  · rw [h1, ← canc_drop (u := u) (by rw [touch_symm]; exact hq y (by rw [h2]; simp))]
    exact h (p ++ u :: a') y l2 (by rw [h2]; simp)
  · cases c' with
    | nil =>
      simp at h1 h2
      have : canc (p ++ []) y ↔ _ := (canc_drop (p := p) (q := []) (u := u) (y := y) (by rw [touch_symm]; exact hq y (by rw [← h2]; simp))).symm
      rw [List.append_nil] at this
      rw [← h1, this]
      exact h (p ++ [u]) y l2 (by rw [← h2]; simp)
    | cons b c' =>
      simp at h2
      rw [← h2.1] at h1
      rw [h1] at h
      exact h l1 y (c' ++ u :: q) (by simp)
theorem red_step {l : List Wk} (h : Red l) (x : Wk) : Red (netStep l x) := by
  rcases step_split l x with ⟨h1, h2⟩ | ⟨l1, l2, h1, h2, _, h4⟩
  · rw [h2]; exact red_app h h1
  · rw [h4]; rw [h1] at h; exact red_drop h h2
theorem red_fold {l : List Wk} (h : Red l) (ws : List Wk) : Red (ws.foldl netStep l) := by
  induction ws generalizing l with
  | nil => exact h
  | cons x ws ih => exact ih (red_step h x)
theorem netL_fold (ws : List Wk) : netL ws = ws.foldl netStep [] := by unfold netL netTo; rw [List.take_length]
theorem netL_app (u v : List Wk) : netL (u ++ v) = v.foldl netStep (netL u) := by rw [netL_fold, netL_fold, List.foldl_append]
theorem red_net (ws : List Wk) : Red (netL ws) := by rw [netL_fold]; exact red_fold red_nil ws
theorem fold_red (ws : List Wk) (h : Red ws) : ws.foldl netStep [] = ws := by
  induction ws using snocRec with
  | nil => rfl
  | append_singleton l x ih =>
    have hl : Red l := fun l1 y l2 e => h l1 y (l2 ++ [x]) (by rw [e]; simp)
    rw [List.foldl_append, ih hl]
    show netStep l x = _
    rcases step_split l x with ⟨_, h2⟩ | ⟨l1, l2, _, _, h3, _⟩
    · exact h2
    · exact (h l x [] (by simp) h3).elim
/-- the net of a net is the net -/
theorem net_net (ws : List Wk) : netL (netL ws) = netL ws := by rw [netL_fold (netL ws)]; exact fold_red _ (red_net ws)
theorem alike_fold {u v : List Wk} (h : Alike u v) (ws : List Wk) : Alike (ws.foldl netStep u) (ws.foldl netStep v) := by
  induction ws generalizing u v with
  | nil => exact h
  | cons x ws ih => exact ih (alike_step h x)
/-- an exchange of works that do not touch -/
theorem net_swap (p q : List Wk) {u v : Wk} (h : touch u.at_ v.at_ = false) : Alike (netL (p ++ u :: v :: q)) (netL (p ++ v :: u :: q)) := by
  rw [netL_app, netL_app]
  exact alike_fold (step_comm _ h) q
theorem step_back {l : List Wk} (h : Red l) {x : Wk} (hx : undoW (undoW x) = x) : Alike (netStep (netStep l x) (undoW x)) l := by
  rcases step_split l x with ⟨h1, h2⟩ | ⟨l1, l2, h1, h2, _, h4⟩
  · rw [h2]
    have hf : Free ([] : List Wk) (undoW x).at_ := fun z hz => by simp at hz
    have c : canc (l ++ [x]) (undoW x) := (canc_split (l1 := l) (l2 := []) (z := x) (x := undoW x) (touch_self x.at_) hf).2 hx.symm
    rcases step_split (l ++ [x]) (undoW x) with ⟨k1, _⟩ | ⟨m1, m2, k1, k2, _, k4⟩
    · exact (k1 c).elim
    · rw [k4]
      rw [hx] at k1
      have : m2 = [] := by
        rcases List.eq_nil_or_concat m2 with e | ⟨r, y, e⟩
        · exact e
        · rw [e] at k1
          have e2 : l ++ [x] = (m1 ++ x :: r) ++ [y] := by rw [k1]; simp
          have e3 := (List.append_inj' e2 rfl).2
          simp at e3
          have := k2 y (by rw [e]; simp)
          rw [← e3] at this
          rw [undoW_at, touch_self] at this; cases this
      subst this
      have := (List.append_inj' k1 rfl).1
      rw [this]; simpa using Alike.refl m1
  · rw [h4]
    have nc : ¬ canc (l1 ++ l2) (undoW x) := by
      have := h l1 (undoW x) l2 h1
      unfold canc at this ⊢
      rw [List.filter_append, filter_free (show Free l2 (undoW x).at_ from h2), List.append_nil]
      exact this
    rcases step_split (l1 ++ l2) (undoW x) with ⟨_, k2⟩ | ⟨m1, m2, _, _, k3, _⟩
    · rw [k2, h1, List.append_assoc]
      exact (Alike.refl l1).app (free_swap h2)
    · exact (nc k3).elim
/-- a work with its undoing, put in anywhere -/
theorem net_pair (p q : List Wk) {x : Wk} (hx : undoW (undoW x) = x) : Alike (netL (p ++ x :: undoW x :: q)) (netL (p ++ q)) := by
  rw [netL_app, netL_app]
  exact alike_fold (step_back (red_net p) hx) q
/-- a sheet and all its undoings -/
theorem net_back (a : List Wk) (h : ∀ x ∈ a, undoW (undoW x) = x) : ∀ p q, Alike (netL (p ++ (a ++ ((a.map undoW).reverse ++ q)))) (netL (p ++ q)) := by
  induction a using snocRec with
  | nil => intro p q; simpa using Alike.refl _
  | append_singleton a x ih =>
    intro p q
    have e : p ++ ((a ++ [x]) ++ (((a ++ [x]).map undoW).reverse ++ q)) = (p ++ a) ++ x :: undoW x :: ((a.map undoW).reverse ++ q) := by simp
    rw [e]
    refine (net_pair _ _ (h x (by simp))).trans ?_
    rw [List.append_assoc]
    exact ih (fun y hy => h y (by simp [hy])) p q
theorem net_none (a : List Wk) (h : ∀ x ∈ a, undoW (undoW x) = x) : netL (a ++ (a.map undoW).reverse) = [] := by
  have := net_back a h [] []
  simp only [List.nil_append, List.append_nil] at this
  exact alike_nil this
theorem net_left (a b : List Wk) : netL (netL a ++ b) = netL (a ++ b) := by rw [netL_app, netL_app, net_net]
/-- a work moved to the left past what does not touch it -/
theorem net_move (p q r : List Wk) {x : Wk} (h : Free q x.at_) : Alike (netL (p ++ (q ++ x :: r))) (netL (p ++ x :: (q ++ r))) := by
  induction q using snocRec generalizing r with
  | nil => exact Alike.refl _
  | append_singleton q y ih =>
    have e : p ++ ((q ++ [y]) ++ x :: r) = (p ++ q) ++ y :: x :: r := by simp
    rw [e]
    refine (net_swap _ _ (h y (by simp))).trans ?_
    have := ih (y :: r) (fun z hz => h z (by simp [hz]))
    simpa using this
theorem net_right (a b : List Wk) (h : ∀ x ∈ b, undoW (undoW x) = x) : Alike (netL (a ++ netL b)) (netL (a ++ b)) := by
  induction b using snocRec with
  | nil => exact Alike.refl _
  | append_singleton b x ih =>
    have ihb := ih (fun y hy => h y (by simp [hy]))
    have hx := h x (by simp)
    have e : netL (b ++ [x]) = netStep (netL b) x := by rw [netL_app]; rfl
    have e2 : Alike (netL (a ++ (b ++ [x]))) (netL (a ++ (netL b ++ [x]))) := by
      rw [← List.append_assoc, ← List.append_assoc, netL_app (a ++ b), netL_app (a ++ netL b)]
      exact alike_fold ihb.symm [x]
    refine Alike.trans ?_ e2.symm
    rw [e]
    rcases step_split (netL b) x with ⟨_, h2⟩ | ⟨l1, l2, h1, h2, _, h4⟩
    · rw [h2]; exact Alike.refl _
    · rw [h4, h1]
      have m := net_move (a ++ l1 ++ [undoW x]) l2 [] h2
      have g := net_pair (a ++ l1) l2 (x := undoW x) (by rw [hx])
      rw [hx] at g
      simp only [List.append_assoc, List.cons_append, List.nil_append, List.append_nil] at m g ⊢
      exact (m.trans g).symm
/-! ### the words -/
end Go.Proofs.Ytnjenggijmbhcaa
