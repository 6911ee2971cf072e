/-
  Contracts of package stitches (words of moves): IndexByte, Check, and of the library's IndexByte beneath.
-/
import Derived.Test.YtdimfbmbomgiaaaV1
import Derived.Laws.StandIn
import Derived.Lib.Bytealg
import Derived.StillTail
import Derived.Deep.RegionHeld3
import Derived.RegionTactic
import Derived.RangeFuncNested
import Derived.RangeFuncCalls
import Derived.OrdersIn
namespace Go.Proofs.Ytdimfbmbomgiaaa
open Go.RowKit
theorem indexByte_eq (l : List UInt8) (c : UInt8) : Lib.indexByte l c = idxOf l c := by
  induction l with
  | nil => rfl
  | cons b l ih =>
    unfold Lib.indexByte
    unfold idxOf at ih ⊢
    simp only [List.idxOf?] at ih ⊢
    rw [List.findIdx?_cons]
    cases hb : (b == c) with
    | true => simp
    | false =>
      rw [ih]
      cases h : List.findIdx? (fun x => x == c) l with
      | none => simp
      | some k =>
        have : ¬ ((k : Int) = -1) := by omega
        simp [this]
theorem idxExt (s : ByteArray) (c : UInt8) (w : World) : (callFunc 73 #[.string s, .int .u8 c.toNat]).run Try.prog w = .ok (.value (.int .i64 (idxOf s.data.toList c))) w := by
  rw [run_callFunc_indexByte Try.func73 (by kernel_rfl) (by kernel_rfl) (by kernel_rfl) (by kernel_rfl), Lib.run_indexByteString]
  rw [indexByte_eq]
  have : (c.toNat : Int).toNat.toUInt8 = c := by simp
  rw [this]
  rfl
theorem liteIndex (s : ByteArray) (c : UInt8) (w : World) :
    Calls Try.prog 69 #[.string s, .int .u8 c.toNat] w fun e w' => e = .returned (.int .i64 (idxOf s.data.toList c)) ∧ w = w' := by
  go_enter Try.func69, Try.ntmps69
  go_wp2_with (simp only [idxExt])
  go_ret
  exact ⟨rfl, rfl⟩
theorem strIndex (s : ByteArray) (c : UInt8) (w : World) :
    Calls Try.prog 59 #[.string s, .int .u8 c.toNat] w fun e w' => e = .returned (.int .i64 (idxOf s.data.toList c)) ∧ w = w' := by
  go_enter Try.func59, Try.ntmps59
  go_wp2_with (go_at_call 69; refine (liteIndex _ _ _).mono ?_; rintro e w' ⟨rfl, rfl⟩)
  go_ret
  exact ⟨rfl, rfl⟩
theorem strIndex_let (c : UInt8) (w : World) :
    Calls Try.prog 59 #[.string ⟨#[67, 84, 76, 82, 80, 99, 116, 108, 114]⟩, .int .u8 c.toNat] w fun e w' => e = .returned (.int .i64 (idxOf letters c)) ∧ w = w' :=
  strIndex ⟨#[67, 84, 76, 82, 80, 99, 116, 108, 114]⟩ c w

set_option maxRecDepth 100000 in
set_option maxHeartbeats 400000 in
theorem stCheck (s : ByteArray) (w : World) (hs : s.size ≤ 9223372036854775807) :
    Calls Try.prog 49 #[.string s] w fun e w' => e = .returned (.int .i64 (wchk s)) ∧ w = w' := by
  by_cases hl : 16 < s.size
  · go_enter Try.func49, Try.ntmps49
    go_wp2
    go_ret
    exact ⟨ret_int (wchk_long hl).symm, rfl⟩
  have hl' : s.size ≤ 16 := by omega
  go_enter Try.func49, Try.ntmps49
  go_wp2
  go_loop [9] (fun i => ∃ k : Nat, k ≤ s.size ∧ i = .int .i64 k ∧ ∀ j, ∀ hj : j < s.size, j < k → isLet s[j] = true) (fun i => s.size - (intOf i).toNat)
  case atStart => exact ⟨0, Nat.zero_le _, rfl, fun j _ hj => absurd hj (by omega)⟩
  case round =>
    obtain ⟨k, hk, rfl, hno⟩ := hrel
    have H := Lib.hid hno; clear hno
    by_cases hlt : k < s.size
    · by_cases hc : 0 ≤ idxOf letters s[k]
      · go_wp2_with (go_at_call 59; refine (strIndex_let _ _).mono ?_; rintro e w' ⟨rfl, rfl⟩)
        go_round
        case rel => exact ⟨k + 1, by omega, by go_num, fun j hs' hj => by
          rcases Nat.lt_or_ge j k with h | h
          · exact H.out j hs' h
          · obtain rfl : j = k := by omega
            exact (isLet_iff _).2 hc⟩
        case measure => simp [intOf]; omega
      · have hc' : idxOf letters s[k] < 0 := by omega
        go_wp2_with (go_at_call 59; refine (strIndex_let _ _).mono ?_; rintro e w' ⟨rfl, rfl⟩)
        go_ret
        exact ⟨ret_int (wchk_bad hl' (wOk_not hlt (idx_no hc'))).symm, rfl⟩
    · go_wp2
      go_ret
      exact ⟨ret_int (wchk_ok hl' (wOk_of fun j hj => H.out j hj (by omega))).symm, rfl⟩
end Go.Proofs.Ytdimfbmbomgiaaa
/-
  Words on clothes: a slice of crossings or pins read as a list; what the document says of a cloth's numbers.
-/
namespace Go.Proofs.Ytdimfbmbomgiaaa
open Go.RowKit
/-- a crossing or a pin: its four numbers -/
structure Q4 where
  a : Int
  b : Int
  c : Int
  d : Int
deriving DecidableEq
def RdQ (w : World) (B : Nat) (A : Option Addr) (xs : List Q4) : Prop :=
  ∀ (k : Nat) (x : Q4), xs[k]? = some x → ∃ b o, A = some ⟨b, o, none⟩ ∧ b < B ∧
    w.cell? ⟨b, o + k*4, none⟩ = some (.int .i64 x.a) ∧ w.cell? ⟨b, o + k*4+1, none⟩ = some (.int .i64 x.b) ∧ w.cell? ⟨b, o + k*4+2, none⟩ = some (.int .i64 x.c) ∧ w.cell? ⟨b, o+k*4+3, none⟩ = some (.int .i64 x.d)
theorem RdQ.below {w w' : World} {B B' : Nat} {A : Option Addr} {xs : List Q4} (h : RdQ w B A xs) (hb : Below B w w') (hB : B ≤ B') : RdQ w' B' A xs := fun k x hx => by
  obtain ⟨b, o, h1, h2, h3, h4, h5, h6⟩ := h k x hx
  exact ⟨b, o, h1, Nat.lt_of_lt_of_le h2 hB, (hb.cell h2).trans h3, (hb.cell h2).trans h4, (hb.cell h2).trans h5, (hb.cell h2).trans h6⟩
theorem RdQ.up {w w' : World} {A : Option Addr} {xs : List Q4} (h : RdQ w w.heap.size A xs) (hb : Below w.heap.size w w') : RdQ w' w'.heap.size A xs := h.below hb hb.size
theorem RdQ.nil (w : World) (B : Nat) (A : Option Addr) : RdQ w B A [] := fun k x hx => by simp at hx
def okC (t : Int) (x : Q4) : Bool := decide (0 ≤ x.b) && decide (x.b ≤ t - 2) && decide (0 ≤ x.a)
def okP (t : Int) (x : Q4) : Bool := decide (0 ≤ x.b) && decide (x.b ≤ t - 2) && decide (0 ≤ x.a) && decide (0 ≤ x.c) && decide (x.c < t) && decide (0 ≤ x.d) && decide (x.d < t) && !(x.c == x.d)
def numsOk (t : Int) (xs ps : List Q4) : Bool := decide (2 ≤ t) && xs.all (okC t) && ps.all (okP t)
/-- a cloth as a value -/
abbrev vCloth (t : Int) (A : Option Addr) (n c : Nat) (B : Option Addr) (m d : Nat) : Value := .agg #[.int .i64 t, .slice A n c, .slice B m d]
theorem all_step {α : Type} {p : α → Bool} {l : List α} {k : Nat} {x : α} (hx : l[k]? = some x) : (l.take (k + 1)).all p = ((l.take k).all p && p x) := by
  rw [List.take_add_one, hx]; simp
theorem all_false {α : Type} {p : α → Bool} {l : List α} {k : Nat} {x : α} (hx : l[k]? = some x) (h : p x = false) : l.all p = false := by
  rw [List.all_eq_false]; exact ⟨x, mem_of_get hx, by rw [h]; simp⟩
end Go.Proofs.Ytdimfbmbomgiaaa
/-
  Contracts of torchonref17: numbers.
-/
namespace Go.Proofs.Ytdimfbmbomgiaaa
open Go.RowKit
set_option maxRecDepth 100000 in
set_option maxHeartbeats 2000000 in
theorem numbers17 (t : Int) (A B : Option Addr) (n c m d : Nat) (xs ps : List Q4) (w : World) (ht : t ≤ 48) (hn : n ≤ 20000) (hm : m ≤ 6400) (hx : RdQ w w.heap.size A xs) (hp : RdQ w w.heap.size B ps) (hl : xs.length = n) (hl' : ps.length = m) (ht0 : -9223372036854775808 ≤ t) :
    Calls Try.prog 57 #[vCloth t A n c B m d] w fun e w' => e = .returned (.bool (numsOk t xs ps)) ∧ Below w.heap.size w w' := by
  have HX := Lib.hid hx; clear hx
  have HP := Lib.hid hp; clear hp
  have HL := Lib.hid hl; clear hl
  have HL' := Lib.hid hl'; clear hl'
  by_cases h2 : t < 2
  · have e : numsOk t xs ps = false := by unfold numsOk; rw [decide_eq_false (by omega)]; rfl
    rw [e]; clear e
    go_enter Try.func57, Try.ntmps57
    go_wp2
    go_ret
    exact ⟨rfl, by go_grown⟩
  have h2' : 2 ≤ t := by omega
  have i1 : IntKind.i64.wrap (t - 2) = t - 2 := IntWalk.i64_in _ (by omega)
  go_enter Try.func57, Try.ntmps57
  go_wp2
  go_loopw [3] (fun i wr => ∃ k : Nat, k ≤ n ∧ i = .int .i64 (k : Int) ∧ (xs.take k).all (okC t) = true ∧ Below w.heap.size w wr ∧ Has wr w.heap.size 49 [.int .i64 t, .slice A n c, .slice B m d]) (fun i _ => n - (intOf i).toNat)
  case atStart => exact ⟨0, Nat.zero_le _, rfl, rfl, by go_grown, Has.new rfl⟩
  case round =>
    obtain ⟨k, hk, rfl, hall, hb, hh⟩ := hrel
    obtain ⟨wo, rfl⟩ : ∃ wo : World, wo = wr := ⟨_, rfl⟩
    have HA := Lib.hid hall; clear hall
    have HH := Lib.hid hh
    have a0 : wo.cell? ⟨w.heap.size, 0, none⟩ = some (.int .i64 t) := hh.cell 0
    have a1 : wo.cell? ⟨w.heap.size, 1, none⟩ = some (.slice A n c) := hh.cell 1
    have a2 : wo.cell? ⟨w.heap.size, 2, none⟩ = some (.slice B m d) := hh.cell 2
    have q := hh.lt
    clear hh
    by_cases hlt : k < n
    · obtain ⟨x, hx⟩ := get_of_lt (l := xs) (k := k) (by rw [HL.out]; exact hlt)
      obtain ⟨ba, o, rfl, hba, c0, c1, c2, c3⟩ := (HX.out.below hb hb.size) _ x hx
      have HXk := Lib.hid hx; clear hx
      go_wp2
      all_goals first
        | (go_ret
           refine ⟨ret_bool (Eq.symm ?_), hb.trans (by go_grown)⟩
           unfold numsOk
           rw [all_false (p := okC t) HXk.out (by unfold okC; simp; omega)]
           simp)
        | skip
      go_roundw
      case rel =>
        refine ⟨k + 1, by omega, by go_num, ?_, hb.alloc (by omega) _, HH.out.alloc _⟩
        rw [all_step HXk.out, HA.out]
        unfold okC; simp; omega
      case measure => first | (simp [intOf]; done) | (simp [intOf]; omega)
    · obtain rfl : k = n := by omega
      have HA' : Hid (xs.all (okC t) = true) := by
        have := HA.out
        rw [List.take_of_length_le (by rw [HL.out]; exact Nat.le_refl _)] at this; exact this
      clear HA HX HL
      go_wp2
      go_loopw [5] (fun i wr => ∃ j : Nat, j ≤ m ∧ i = .int .i64 (j : Int) ∧ (ps.take j).all (okP t) = true ∧ Below w.heap.size w wr ∧ Has wr w.heap.size 49 [.int .i64 t, .slice A k c, .slice B m d]) (fun i _ => m - (intOf i).toNat)
      case atStart => exact ⟨0, Nat.zero_le _, rfl, rfl, hb, HH.out⟩
      case round =>
        clear hb a0 a1 a2 q HH
        obtain ⟨j, hj, rfl, hall, hb, hh⟩ := hrel
        obtain ⟨wo, rfl⟩ : ∃ wo : World, wo = wr := ⟨_, rfl⟩
        have HA := Lib.hid hall; clear hall
        have HH := Lib.hid hh
        have a0 : wo.cell? ⟨w.heap.size, 0, none⟩ = some (.int .i64 t) := hh.cell 0
        have a1 : wo.cell? ⟨w.heap.size, 1, none⟩ = some (.slice A k c) := hh.cell 1
        have a2 : wo.cell? ⟨w.heap.size, 2, none⟩ = some (.slice B m d) := hh.cell 2
        have q := hh.lt
        clear hh
        by_cases hlt : j < m
        · obtain ⟨x, hx⟩ := get_of_lt (l := ps) (k := j) (by rw [HL'.out]; exact hlt)
          obtain ⟨ba, o, rfl, hba, c0, c1, c2, c3⟩ := (HP.out.below hb hb.size) _ x hx
          have HXk := Lib.hid hx; clear hx
          by_cases hcd : x.c = x.d
          · have hcd' : (x.c == x.d) = true := by simpa using hcd
            have HB : Hid (okP t x = false) := by
              show okP t x = false
              unfold okP; rw [hcd']; simp
            clear hcd
            go_wp2
            all_goals go_ret
            all_goals refine ⟨ret_bool (Eq.symm ?_), hb.trans (by go_grown)⟩
            all_goals unfold numsOk
            all_goals rw [all_false (p := okP t) HXk.out HB.out]
            all_goals simp
          · have hcd' : (x.c == x.d) = false := by simpa using hcd
            have HCD := Lib.hid hcd'
            clear hcd
            go_wp2
            all_goals first
              | (go_ret
                 refine ⟨ret_bool (Eq.symm ?_), hb.trans (by go_grown)⟩
                 unfold numsOk
                 rw [all_false (p := okP t) HXk.out (by unfold okP; simp; omega)]
                 simp)
              | skip
            go_roundw
            case rel =>
              refine ⟨j + 1, by omega, by go_num, ?_, hb.alloc (by omega) _, HH.out.alloc _⟩
              rw [all_step HXk.out, HA.out]
              unfold okP; rw [HCD.out]; simp; omega
            case measure => first | (simp [intOf]; done) | (simp [intOf]; omega)
        · obtain rfl : j = m := by omega
          have HB' : Hid (ps.all (okP t) = true) := by
            have := HA.out
            rw [List.take_of_length_le (by rw [HL'.out]; exact Nat.le_refl _)] at this; exact this
          have HF : Hid (numsOk t xs ps = true) := by
            show numsOk t xs ps = true
            unfold numsOk
            rw [HA'.out, HB'.out, decide_eq_true h2']; rfl
          clear HA HB' HA' 
          go_wp2
          go_ret
          exact ⟨ret_bool HF.out.symm, hb⟩
end Go.Proofs.Ytdimfbmbomgiaaa
/-
  Contracts of torchonref17: line, ends, Check.
-/
namespace Go.Proofs.Ytdimfbmbomgiaaa
open Go.RowKit
def lineL (n : Nat) : List Int := (List.range n).map fun (k : Nat) => (k : Int)
def endOk (a b : Int) (x : Q4) : Bool := (a == x.c && b == x.d) || (b == x.c && a == x.d)
def endStep (L : List Int) (x : Q4) : Option (List Int) :=
  match L[x.b.toNat]?, L[x.b.toNat + 1]? with
  | some a, some b => if endOk a b x then some ((L.set x.b.toNat b).set (x.b.toNat + 1) a) else none
  | _, _ => none
def endsTo (xs : List Q4) (L : List Int) : Nat → Option (List Int)
  | 0 => some L
  | k + 1 => (endsTo xs L k).bind fun L' => match xs[k]? with
    | some x => endStep L' x
    | none => none
def endsOk (t : Int) (xs : List Q4) : Bool := (endsTo xs (lineL t.toNat) xs.length).isSome
theorem endsTo_none {xs : List Q4} {L : List Int} {k : Nat} (h : endsTo xs L k = none) : ∀ n, k ≤ n → endsTo xs L n = none := fun n hn => by
  induction n with
  | zero => obtain rfl : k = 0 := by omega
            exact h
  | succ n ih =>
    rcases Nat.lt_or_ge n k with e | e
    · obtain rfl : k = n + 1 := by omega
      exact h
    · show (endsTo xs L n).bind _ = none
      rw [ih e]; rfl
theorem endsTo_succ {xs : List Q4} {L L' : List Int} {k : Nat} {x : Q4} (h : endsTo xs L k = some L') (hx : xs[k]? = some x) : endsTo xs L (k + 1) = endStep L' x := by
  show (endsTo xs L k).bind _ = _
  rw [h, hx]; rfl
theorem endStep_get {L : List Int} {x : Q4} {i : Nat} {a b : Int} (hi : x.b.toNat = i) (ha : L[i]? = some a) (hb : L[i + 1]? = some b) : endStep L x = if endOk a b x then some ((L.set i b).set (i + 1) a) else none := by
  unfold endStep; rw [hi, ha, hb]
theorem lineL_len (n : Nat) : (lineL n).length = n := by simp [lineL]
theorem lineL_succ (n : Nat) : lineL (n + 1) = lineL n ++ [(n : Int)] := by simp [lineL, List.range_succ]
theorem own_has {w : World} {base n : Nat} {e : TypeId} {A : Option Addr} {c : Nat} {xs : List Value} (h : w.ownsRow base e 1 (.slice A n c) n xs) (hn : 0 < n) : ∃ g rest, A = some ⟨g, 0, none⟩ ∧ base ≤ g ∧ Has w g e (xs ++ rest) ∧ n ≤ c := by
  rcases h.2 with ⟨hv, h0⟩ | ⟨g, cap, cur, hv, hbg, hg, hnc, hcm, hcs, ht⟩
  · omega
  · injection hv with h1 h2 h3
    subst h3
    refine ⟨g, cur.toList.drop (n * 1), h1, hbg, ?_, hnc⟩
    unfold Has
    rw [hg, ← ht, List.take_append_drop]
set_option maxRecDepth 100000 in
theorem line17 (n : Nat) (w : World) (hn : n ≤ 48) (h0 : 0 < n) :
    Calls Try.prog 42 #[.int .i64 (n : Int)] w fun e w' => ∃ g c rest, e = .returned (.slice (some ⟨g, 0, none⟩) n c) ∧ w.heap.size ≤ g ∧ n ≤ c ∧ Has w' g 3 ((lineL n).map vInt ++ rest) ∧ Below w.heap.size w w' := by
  go_enter Try.func42, Try.ntmps42
  go_wp2
  go_loopw [3, 4] (fun v i wr => ∃ (k : Nat) (A' : Option Addr) (c' : Nat), k ≤ n ∧ i = .int .i64 (k : Int) ∧ v = .slice A' k c' ∧ wr.ownsRow w.heap.size 3 1 v k ((lineL k).map vInt) ∧ Below w.heap.size w wr) (fun _ i _ => n - (intOf i).toNat)
  case atStart => exact ⟨0, none, 0, Nat.zero_le _, rfl, rfl, World.ownsRow_nil _ _ _ _, Below.refl _ _⟩
  case round =>
    obtain ⟨k, A', c', hk, rfl, rfl, hown, hb⟩ := hrel
    obtain ⟨wo, rfl⟩ : ∃ wo : World, wo = wr := ⟨_, rfl⟩
    have HO := Lib.hid hown; clear hown
    have hz := hb.size
    by_cases hlt : k < n
    · go_wp2_with (at_builtin; refine wpList_app rfl (.tmp 10) (.tmp 12) _ rfl w.heap.size 3 (.int .i64 0) 1 8 Try.underlying52 infoInt rfl (by omega) (by omega) _ _ _ rfl (HO.out.alloc _) wo.heap.size [vInt k] rfl rfl (news_new _ _ _) (one_int _ _) (by omega) (by simp; omega) ?_; intro ga cap1 w2 hg1 hown1 hgrow1 hor1)
      go_roundw
      case rel => exact ⟨k + 1, some ⟨ga, 0, none⟩, cap1, by omega, by go_num, rfl, by rw [lineL_succ]; simpa using hown1, (hb.alloc hz _).grown hgrow1 (by simp; omega) (fun kk hk => (HO.out.lt kk hk).1)⟩
      case measure => first | (simp [intOf]; done) | (simp [intOf]; omega)
    · obtain rfl : k = n := by omega
      obtain ⟨g, rest, rfl, h1, h2, h3⟩ := own_has HO.out h0
      go_wp2
      go_ret
      exact ⟨g, c', rest, rfl, h1, h3, h2, hb⟩
theorem row_set2 (L : List Int) (rest : List Value) (b a : Int) {i : Nat} (h : i + 1 < L.length) : ((L.map vInt ++ rest).set i (.int .i64 b)).set (i + 1) (.int .i64 a) = ((L.set i b).set (i + 1) a).map vInt ++ rest := by
  rw [List.set_append_left _ _ (by simp; omega), List.set_append_left _ _ (by simp; omega), List.map_set, List.map_set]
set_option maxRecDepth 100000 in
set_option maxHeartbeats 2000000 in
theorem ends17 (t : Int) (A B : Option Addr) (n c m d : Nat) (xs : List Q4) (w : World) (ht : t ≤ 48) (ht2 : 2 ≤ t) (hn : n ≤ 20000) (hx : RdQ w w.heap.size A xs) (hl : xs.length = n) (hok : ∀ x ∈ xs, okC t x = true) :
    Calls Try.prog 45 #[vCloth t A n c B m d] w fun e w' => ∃ A' n' c', e = .returned (.tuple #[.slice A' n' c', .bool (endsOk t xs)]) ∧ Below w.heap.size w w' := by
  have HX := Lib.hid hx; clear hx
  have HL := Lib.hid hl; clear hl
  have HOK := Lib.hid hok; clear hok
  obtain ⟨T, rfl⟩ := Int.eq_ofNat_of_zero_le (show 0 ≤ t by omega)
  have K0 : Has (w.alloc (.cells #[.int .i64 (T : Int), .slice A n c, .slice B m d] 49)) w.heap.size 49 [.int .i64 (T : Int), .slice A n c, .slice B m d] := Has.new rfl
  go_enter Try.func45, Try.ntmps45
  go_wp2_with fail
  refine (line17 T _ (by omega) (by omega)).mono ?_
  rintro e w1 ⟨g, cg, rest, rfl, hg, hgc, hG, hb1⟩
  have B1 : Below w.heap.size w w1 := bvia (by go_grown) hb1
  have HK := Lib.hid (K0.below hb1 K0.lt)
  have hgw : w.heap.size < g := by simp at hg; omega
  clear K0 hb1 hg
  go_wp2
  go_loopw [5] (fun i wr => ∃ (k : Nat) (L : List Int), k ≤ n ∧ i = .int .i64 (k : Int) ∧ endsTo xs (lineL T) k = some L ∧ L.length = T ∧ Has wr g 3 (L.map vInt ++ rest) ∧ Has wr w.heap.size 49 [.int .i64 (T : Int), .slice A n c, .slice B m d] ∧ Below w.heap.size w wr) (fun i _ => n - (intOf i).toNat)
  case atStart => exact ⟨0, lineL T, Nat.zero_le _, rfl, rfl, lineL_len T, hG, HK.out, B1⟩
  case round =>
    clear hG B1
    obtain ⟨k, L, hk, rfl, hE, hLT, hG, hK, hb⟩ := hrel
    obtain ⟨wo, rfl⟩ : ∃ wo : World, wo = wr := ⟨_, rfl⟩
    have HE := Lib.hid hE; clear hE
    have HLT := Lib.hid hLT; clear hLT
    have a0 : wo.cell? ⟨w.heap.size, 0, none⟩ = some (.int .i64 (T : Int)) := hK.cell 0
    have a1 : wo.cell? ⟨w.heap.size, 1, none⟩ = some (.slice A n c) := hK.cell 1
    have q := hK.lt
    have qg := hG.lt
    have HKw := Lib.hid hK; clear hK
    have HGw := Lib.hid hG; clear hG
    by_cases hlt : k < n
    · obtain ⟨x, hx⟩ := get_of_lt (l := xs) (k := k) (by rw [HL.out]; exact hlt)
      obtain ⟨ba, o, rfl, hba, c0, c1, c2, c3⟩ := (HX.out.below hb hb.size) _ x hx
      have hxo := HOK.out x (mem_of_get hx)
      unfold okC at hxo
      simp at hxo
      obtain ⟨i, hi⟩ := Int.eq_ofNat_of_zero_le hxo.1.1
      have hiT : i + 1 < T := by have := hxo.1.2; omega
      obtain ⟨a, ha⟩ := get_of_lt (l := L) (k := i) (by rw [HLT.out]; omega)
      obtain ⟨b, hb'⟩ := get_of_lt (l := L) (k := i + 1) (by rw [HLT.out]; exact hiT)
      have HES : Hid (endsTo xs (lineL T) (k + 1) = if endOk a b x then some ((L.set i b).set (i + 1) a) else none) := by
        show endsTo xs (lineL T) (k + 1) = _
        rw [endsTo_succ HE.out hx]
        exact endStep_get (by rw [hi]; simp) ha hb'
      have r0 : wo.cell? ⟨g, i, none⟩ = some (.int .i64 a) := by
        rw [HGw.out.cell, List.getElem?_append_left (by simp [HLT.out]; omega), List.getElem?_map, ha]; rfl
      have r1 : wo.cell? ⟨g, i + 1, none⟩ = some (.int .i64 b) := by
        rw [HGw.out.cell, List.getElem?_append_left (by simp [HLT.out]; omega), List.getElem?_map, hb']; rfl
      rw [hi] at c1
      have HI := Lib.hid hi
      clear hx hxo ha hb' hi
      have i1 : IntKind.i64.wrap ((i : Int) + 1) = (i : Int) + 1 := IntWalk.i64_in _ (by omega)
      have i2 : ((i : Int) + 1).toNat = i + 1 := by omega
      have i3 : (0 : Int) ≤ (i : Int) + 1 := by omega
      have i4 : (i : Int) + 1 < (T : Int) := by omega
      have i5 : i < T := by omega
      go_wp2
      have x1 : (wo.alloc (.cells #[.int .i64 x.a, .int .i64 (i : Int), .int .i64 x.c, .int .i64 x.d] 83)).cell? ⟨wo.heap.size, 1, none⟩ = some (.int .i64 (i : Int)) := by go_simp
      have x2 : (wo.alloc (.cells #[.int .i64 x.a, .int .i64 (i : Int), .int .i64 x.c, .int .i64 x.d] 83)).cell? ⟨wo.heap.size, 2, none⟩ = some (.int .i64 x.c) := by go_simp
      have x3 : (wo.alloc (.cells #[.int .i64 x.a, .int .i64 (i : Int), .int .i64 x.c, .int .i64 x.d] 83)).cell? ⟨wo.heap.size, 3, none⟩ = some (.int .i64 x.d) := by go_simp
      have hBW : Below wo.heap.size wo (wo.alloc (.cells #[.int .i64 x.a, .int .i64 (i : Int), .int .i64 x.c, .int .i64 x.d] 83)) := by go_grown
      have qx : wo.heap.size < (wo.alloc (.cells #[.int .i64 x.a, .int .i64 (i : Int), .int .i64 x.c, .int .i64 x.d] 83)).heap.size := by simp
      generalize (wo.alloc (.cells #[.int .i64 x.a, .int .i64 (i : Int), .int .i64 x.c, .int .i64 x.d] 83)) = W1 at *
      have qg1 : g < W1.heap.size := by omega
      have s0 := (hBW.cell (p := ⟨g, i, none⟩) qg).trans r0
      have s1 := (hBW.cell (p := ⟨g, i + 1, none⟩) qg).trans r1
      clear r0 r1
      have hxc := fun (x : Ext W1) => x.cell
      refine wp_region_ext (by kernel_rfl) (by kernel_rfl) ?_
      repeat (go_big_quiet_step (fail))
      refine wpQuiet_nil ?_
      intro w2 hw'
      have hb2 := ext_below hw'
      clear hw' hxc
      have y1 := (hb2.cell (p := ⟨wo.heap.size, 1, none⟩) qx).trans x1
      have y2 := (hb2.cell (p := ⟨wo.heap.size, 2, none⟩) qx).trans x2
      have y3 := (hb2.cell (p := ⟨wo.heap.size, 3, none⟩) qx).trans x3
      have z0 := (hb2.cell (p := ⟨g, i, none⟩) qg1).trans s0
      have z1 := (hb2.cell (p := ⟨g, i + 1, none⟩) qg1).trans s1
      have hB2 : Below wo.heap.size wo w2 := bvia hBW hb2
      have B2 : Below w.heap.size w w2 := bvia hb hB2
      have G2 := Lib.hid (HGw.out.below hB2 qg)
      have K2 := Lib.hid (HKw.out.below hB2 q)
      have qx2 : wo.heap.size < w2.heap.size := by have := hb2.size; omega
      have qg2 := G2.out.lt
      have fg := G2.out.free i
      have fg1 := G2.out.free (i + 1)
      have nz1 : g ≠ wo.heap.size := by omega
      have nz2 : wo.heap.size ≠ g := by omega
      clear x1 x2 x3 s0 s1 hb2 hBW qx qg1 a0 a1
      by_cases hA : a = x.c ∧ b = x.d
      · obtain ⟨e1, e2⟩ := hA
        have f1 : (a != x.c) = false := by simpa using e1
        have f2 : (b != x.d) = false := by simpa using e2
        have hOKb : endOk a b x = true := by unfold endOk; rw [e1, e2]; simp
        clear e1 e2
        go_wp2
        have hEq : Hid (endsTo xs (lineL T) (k + 1) = some ((L.set i b).set (i + 1) a)) := by
          show endsTo xs (lineL T) (k + 1) = _
          rw [HES.out, if_pos hOKb]
        go_region_held3 (fun W => W.cell? ⟨wo.heap.size, 1, none⟩ = some (.int .i64 (i : Int))) (go_keep) (fail)
        go_wp2
        go_roundw
        case rel =>
          have h1 := ((G2.out.set i (.int .i64 b)).set (i + 1) (.int .i64 a))
          rw [row_set2 L rest b a (by rw [HLT.out]; exact hiT)] at h1
          refine ⟨k + 1, (L.set i b).set (i + 1) a, by omega, by go_num, hEq.out, by rw [List.length_set, List.length_set, HLT.out], h1.drew, ((K2.out.far (by omega) i _).far (by omega) (i + 1) _).drew, (((B2.setCell (by simp; omega) _).setCell (by simp; omega) _)).drew⟩
        case measure => first | (simp [intOf]; done) | (simp [intOf]; omega)
      · by_cases hB' : b = x.c ∧ a = x.d
        · obtain ⟨e1, e2⟩ := hB'
          have f0 : (a != x.c) = true := by simp; intro h; exact hA ⟨h, by rw [e1, ← h, e2]⟩
          have f1 : (b != x.c) = false := by simpa using e1
          have f2 : (a != x.d) = false := by simpa using e2
          have hOKb : endOk a b x = true := by unfold endOk; rw [e1, e2]; simp
          clear e1 e2 hA
          go_wp2
          have hEq : Hid (endsTo xs (lineL T) (k + 1) = some ((L.set i b).set (i + 1) a)) := by
            show endsTo xs (lineL T) (k + 1) = _
            rw [HES.out, if_pos hOKb]
          go_region_held3 (fun W => W.cell? ⟨wo.heap.size, 1, none⟩ = some (.int .i64 (i : Int))) (go_keep) (fail)
          go_wp2
          go_roundw
          case rel =>
            have h1 := ((G2.out.set i (.int .i64 b)).set (i + 1) (.int .i64 a))
            rw [row_set2 L rest b a (by rw [HLT.out]; exact hiT)] at h1
            refine ⟨k + 1, (L.set i b).set (i + 1) a, by omega, by go_num, hEq.out, by rw [List.length_set, List.length_set, HLT.out], h1.drew, ((K2.out.far (by omega) i _).far (by omega) (i + 1) _).drew, (((B2.setCell (by simp; omega) _).setCell (by simp; omega) _)).drew⟩
          case measure => first | (simp [intOf]; done) | (simp [intOf]; omega)
        · have hF : Hid (endsOk (T : Int) xs = false) := by
            show endsOk (T : Int) xs = false
            have : endOk a b x = false := by
              unfold endOk
              simp only [Bool.or_eq_false_iff, Bool.and_eq_false_iff, beq_eq_false_iff_ne]
              omega
            unfold endsOk
            rw [Int.toNat_natCast, endsTo_none (by rw [HES.out, this]; rfl) xs.length (by rw [HL.out]; omega)]
            rfl
          by_cases e1 : a = x.c
          · have f0 : (a != x.c) = false := by simpa using e1
            have f1 : (b != x.d) = true := by simp; intro h; exact hA ⟨e1, h⟩
            by_cases e2 : b = x.c
            · have f2 : (b != x.c) = false := by simpa using e2
              have f3 : (a != x.d) = true := by simp; intro h; exact hB' ⟨e2, h⟩
              clear e1 e2 hA hB'
              go_wp2
              go_ret2
              exact ⟨none, 0, 0, by rw [hF.out]; rfl, B2⟩
            · have f2 : (b != x.c) = true := by simpa using e2
              clear e1 e2 hA hB'
              go_wp2
              go_ret2
              exact ⟨none, 0, 0, by rw [hF.out]; rfl, B2⟩
          · have f0 : (a != x.c) = true := by simpa using e1
            by_cases e2 : b = x.c
            · have f2 : (b != x.c) = false := by simpa using e2
              have f3 : (a != x.d) = true := by simp; intro h; exact hB' ⟨e2, h⟩
              clear e1 e2 hA hB'
              go_wp2
              go_ret2
              exact ⟨none, 0, 0, by rw [hF.out]; rfl, B2⟩
            · have f2 : (b != x.c) = true := by simpa using e2
              clear e1 e2 hA hB'
              go_wp2
              go_ret2
              exact ⟨none, 0, 0, by rw [hF.out]; rfl, B2⟩
    · obtain rfl : k = n := by omega
      have hF : Hid (endsOk (T : Int) xs = true) := by
        show endsOk (T : Int) xs = true
        unfold endsOk
        rw [Int.toNat_natCast, HL.out, HE.out]; rfl
      go_wp2
      go_ret2
      exact ⟨some ⟨g, 0, none⟩, T, cg, by rw [hF.out]; rfl, hb⟩
/-- the error of a cloth -/
def ckE (t : Int) (xs ps : List Q4) : Int := if 48 < t ∨ 20000 < xs.length ∨ 6400 < ps.length then 3 else if numsOk t xs ps = false then 2 else if endsOk t xs = false then 6 else 0
theorem numsOk_parts {t : Int} {xs ps : List Q4} (h : numsOk t xs ps = true) : 2 ≤ t ∧ (∀ x ∈ xs, okC t x = true) ∧ (∀ x ∈ ps, okP t x = true) := by
  unfold numsOk at h
  simp only [Bool.and_eq_true, decide_eq_true_eq, List.all_eq_true] at h
  exact ⟨h.1.1, h.1.2, h.2⟩
set_option maxRecDepth 100000 in
set_option maxHeartbeats 1000000 in
theorem check17 (t : Int) (A B : Option Addr) (n c m d : Nat) (xs ps : List Q4) (w : World) (hn : n ≤ 9223372036854775807) (hm : m ≤ 9223372036854775807) (hx : RdQ w w.heap.size A xs) (hp : RdQ w w.heap.size B ps) (hl : xs.length = n) (hl' : ps.length = m) (ht0 : -9223372036854775808 ≤ t) :
    Calls Try.prog 44 #[vCloth t A n c B m d] w fun e w' => e = .returned (.int .i64 (ckE t xs ps)) ∧ Below w.heap.size w w' := by
  have HX := Lib.hid hx; clear hx
  have HP := Lib.hid hp; clear hp
  by_cases h1 : 48 < t
  · have e : ckE t xs ps = 3 := by unfold ckE; rw [if_pos (.inl h1)]
    rw [e]; clear e
    go_enter Try.func44, Try.ntmps44
    go_wp2
    go_ret
    exact ⟨rfl, by go_grown⟩
  by_cases h2 : 20000 < (n : Int)
  · have e : ckE t xs ps = 3 := by unfold ckE; rw [if_pos (.inr (.inl (by omega)))]
    rw [e]; clear e
    go_enter Try.func44, Try.ntmps44
    go_wp2
    go_ret
    exact ⟨rfl, by go_grown⟩
  by_cases h3 : 6400 < (m : Int)
  · have e : ckE t xs ps = 3 := by unfold ckE; rw [if_pos (.inr (.inr (by omega)))]
    rw [e]; clear e
    go_enter Try.func44, Try.ntmps44
    go_wp2
    go_ret
    exact ⟨rfl, by go_grown⟩
  have e : ckE t xs ps = if numsOk t xs ps = false then 2 else if endsOk t xs = false then 6 else 0 := by unfold ckE; rw [if_neg (by omega)]
  rw [e]; clear e
  have ht : t ≤ 48 := by omega
  have C1 := Lib.hid (fun (W : World) (hb : Below w.heap.size w W) => numbers17 t A B n c m d xs ps W ht (by omega) (by omega) (HX.out.up hb) (HP.out.up hb) hl hl' ht0)
  have d1 : decide (48 < t) = false := decide_eq_false h1
  have d2 : decide ((20000 : Int) < n) = false := decide_eq_false h2
  have d3 : decide ((6400 : Int) < m) = false := decide_eq_false h3
  have K0 : Has (w.alloc (.cells #[.int .i64 t, .slice A n c, .slice B m d] 49)) w.heap.size 49 [.int .i64 t, .slice A n c, .slice B m d] := Has.new rfl
  cases hN : numsOk t xs ps with
  | false =>
    rw [hN] at C1
    rw [if_pos rfl]
    clear h1 h2 h3
    go_enter Try.func44, Try.ntmps44
    go_wp2_with fail
    refine (C1.out _ (by go_grown)).mono ?_
    rintro e w1 ⟨rfl, hb1⟩
    go_wp2
    go_ret
    exact ⟨rfl, bvia (by go_grown) hb1⟩
  | true =>
    rw [hN] at C1
    rw [if_neg (by simp)]
    obtain ⟨g1, g2, g3⟩ := numsOk_parts hN
    have hn2 : n ≤ 20000 := by omega
    have C2 := Lib.hid (fun (W : World) (hb : Below w.heap.size w W) => ends17 t A B n c m d xs W ht g1 hn2 (HX.out.up hb) hl g2)
    clear h1 h2 h3 g1 g2 g3
    generalize endsOk t xs = q at *
    go_enter Try.func44, Try.ntmps44
    go_wp2_with fail
    refine (C1.out _ (by go_grown)).mono ?_
    rintro e w1 ⟨rfl, hb1⟩
    have B1 : Below w.heap.size w w1 := bvia (by go_grown) hb1
    have K1 := K0.below hb1 K0.lt
    have a0 : w1.cell? ⟨w.heap.size, 0, none⟩ = some (.int .i64 t) := K1.cell 0
    have a1 : w1.cell? ⟨w.heap.size, 1, none⟩ = some (.slice A n c) := K1.cell 1
    have a2 : w1.cell? ⟨w.heap.size, 2, none⟩ = some (.slice B m d) := K1.cell 2
    clear K0 K1
    go_wp2_with fail
    refine (C2.out _ B1).mono ?_
    rintro e w2 ⟨A', n', c', rfl, hb2⟩
    cases q with
    | true =>
      go_wp2
      go_ret
      exact ⟨rfl, bvia B1 hb2⟩
    | false =>
      go_wp2
      go_ret
      exact ⟨rfl, bvia B1 hb2⟩
end Go.Proofs.Ytdimfbmbomgiaaa
namespace Go.Proofs.Ytdimfbmbomgiaaa
open Go
/-! A region that draws, with a condition that holds till operation k has come up and another one from then on. -/
section
variable {P : Program} {ops : Array Oper} {Q : Exit → Act → World → Prop} {md : Region.Mode} {S : Bool → World → Prop} {k : Nat}
def wpAnyB (P : Program) (md : Region.Mode) (ops : Array Oper) (Q : Exit → Act → World → Prop) (S : Bool → World → Prop) (k : Nat) : Nat → Array Bool → Act → World → Prop
  | 0, listed, a, w => Region.ready md ops listed = [] ∧ Q .normal a w
  | fuel + 1, listed, a, w =>
    (Region.ready md ops listed = [] → Q .normal a w) ∧
    ∀ i ∈ Region.ready md ops listed, wpOp P ops Q i (fun a' w' => S ((listed.setIfInBounds i true).getD k false) w' ∧ wpAnyB P md ops Q S k fuel (listed.setIfInBounds i true) a' w') a w
theorem wpAny_of_B : ∀ (fuel : Nat) (listed : Array Bool) (a : Act) (w : World), wpAnyB P md ops Q S k fuel listed a w → wpAny P md ops Q fuel listed a w
  | 0, _, _, _, h => h
  | fuel + 1, _, _, _, h => ⟨h.1, fun i hi => wpOp_mono (fun a' w' h' => wpAny_of_B fuel _ a' w' h'.2) (h.2 i hi)⟩
theorem wpAnyB_first {i : Nat} {oi : Oper} {v : Value} {Sx : World → Prop} (hi : ops[i]? = some oi) (hsel : ∀ (j : Nat) (o : Oper) cs b, ops[j]? = some o → o.op ≠ .select cs b)
    (hQ : ∀ c a w, Q (.panic c) (a.put oi.dst v) w → Q (.panic c) a w) (hik : i ≠ k) (hf0 : ∀ w, S false w → Sx w) (hf1 : (∀ w, S true w → Sx w) ∨ Region.waitsFor md ops k i = true) :
    ∀ (fuel : Nat) (listed : Array Bool) (a : Act) (w : World),
      (∀ j oj, ops[j]? = some oj → j ≠ i → listed.getD j true = false → (∀ e ∈ oj.after, Region.binds md e = true → e.on ≠ i) → oi.apart ops oj = true) →
      i ∈ Region.ready md ops listed → (listed.getD k false = true → ∀ w, S true w → Sx w) → YieldsIf P ops Sx oi v a → S (listed.getD k false) w →
      wpAnyB P md ops Q S k fuel (listed.setIfInBounds i true) (a.put oi.dst v) w → wpAnyB P md ops Q S k (fuel + 1) listed a w := by
  have hx : ∀ (listed : Array Bool) (w : World), (listed.getD k false = true → ∀ w, S true w → Sx w) → S (listed.getD k false) w → Sx w := fun listed w h hS => by
    cases hb : listed.getD k false with
    | false => rw [hb] at hS; exact hf0 w hS
    | true => have := h hb; rw [hb] at hS; exact this w hS
  intro fuel
  induction fuel with
  | zero =>
    intro listed a w _ hr hl hy hS H
    refine ⟨fun h => (by rw [h] at hr; cases hr), fun j hj => ?_⟩
    by_cases hji : j = i
    · subst hji
      exact hy.wpOp hi (hx _ _ hl hS) ⟨by rw [getD_set_ne false hik]; exact hS, H⟩
    · have := ready_mono hj hji
      rw [H.1] at this
      cases this
  | succ fuel ih =>
    intro listed a w hfree hr hl hy hS H
    refine ⟨fun h => (by rw [h] at hr; cases hr), fun j hj => ?_⟩
    by_cases hji : j = i
    · subst hji
      exact hy.wpOp hi (hx _ _ hl hS) ⟨by rw [getD_set_ne false hik]; exact hS, H⟩
    · have h1 := H.2 j (ready_mono hj hji)
      obtain ⟨hjun, oj, hoj, hall⟩ := mem_ready.1 hj
      have hun := (mem_ready.1 hr).1
      have hnot : ∀ e ∈ oj.after, Region.binds md e = true → e.on ≠ i := fun e he hb heq => by
        have h1 := hall e he hb
        rw [heq, getD_both hun] at h1
        cases h1
      have h2 := wpOp_putIf hoj (hfree j oj hoj hji hjun hnot) (fun cs b => hsel i oi cs b hi) (fun cs b => hsel j oj cs b hoj) hQ hy h1
      have hfree' : ∀ t ot, ops[t]? = some ot → t ≠ i → (listed.setIfInBounds j true).getD t true = false →
          (∀ e ∈ ot.after, Region.binds md e = true → e.on ≠ i) → oi.apart ops ot = true := fun t ot ht hti hun hno => by
        refine hfree t ot ht hti ?_ hno
        by_cases hjt : j = t
        · subst hjt; exact hjun
        · rw [getD_set_ne true hjt] at hun; exact hun
      have hl' : (listed.setIfInBounds j true).getD k false = true → ∀ w, S true w → Sx w := fun h => by
        by_cases hjk : j = k
        · subst hjk
          rcases hf1 with hf1 | hf1
          · exact hf1
          · obtain ⟨o', ho', e, he, hb, hon⟩ := Region.waitsFor_spec hf1
            have : o' = oj := Option.some.inj (ho'.symm.trans hoj)
            subst this
            exact absurd hon (hnot e he hb)
        · rw [getD_set_ne false hjk] at h; exact hl h
      have hsw : ((listed.setIfInBounds i true).setIfInBounds j true).getD k false = (listed.setIfInBounds j true).getD k false := by
        rw [Array.setIfInBounds_comm _ _ (Ne.symm hji), getD_set_ne false hik]
      refine wpOp_mono (fun a' w' h3 => ?_) h2
      have hS3 : S ((listed.setIfInBounds j true).getD k false) w' := hsw ▸ h3.2.1
      refine ⟨hS3, ih (listed.setIfInBounds j true) a' w' hfree' (ready_mono hr (Ne.symm hji)) hl' h3.1 hS3 ?_⟩
      rw [Array.setIfInBounds_comm _ _ hji]
      exact h3.2.2
/-- take number i first -/
theorem wpAnyB_take {i : Nat} {oi : Oper} {v : Value} {fuel : Nat} {listed : Array Bool} {a : Act} {w : World} (Sx : World → Prop) (hi : ops[i]? = some oi)
    (hs : Region.noSelect ops = true) (hf : Region.free md ops listed i = true) (hr : (Region.ready md ops listed).contains i = true) (hk : listed.getD k false = false)
    (hik : (i == k) = false) (hf0 : ∀ w, S false w → Sx w) (hf1 : (∀ w, S true w → Sx w) ∨ Region.waitsFor md ops k i = true)
    (hQ : ∀ c a w, Q (.panic c) (a.put oi.dst v) w → Q (.panic c) a w) (hy : YieldsIf P ops Sx oi v a) (hS : S false w)
    (h : wpAnyB P md ops Q S k fuel (listed.setIfInBounds i true) (a.put oi.dst v) w) : wpAnyB P md ops Q S k (fuel + 1) listed a w :=
  wpAnyB_first hi (Region.noSelect_spec hs) hQ (by simpa using hik) hf0 hf1 fuel listed a w (Region.free_spec hi hf) (by simpa using hr) (fun h => by rw [hk] at h; cases h) hy (by rw [hk]; exact hS) h
/-- each of these comes up next -/
theorem wpAnyB_one {i : Nat} {oi : Oper} {fuel : Nat} {listed : Array Bool} {a : Act} {w : World} (b : Bool) (hi : ops[i]? = some oi) (hr : Region.ready md ops listed = [i]) (hb : (listed.setIfInBounds i true).getD k false = b)
    (h : ∀ K' : Act → World → Prop, Shut (∀ a w, S b w → wpAnyB P md ops Q S k fuel (listed.setIfInBounds i true) a w → K' a w) → if Region.wanted oi (yielded ops a.tmps) = true then Oper.wp P oi a w K' Q else K' (a.put oi.dst undef) w) : wpAnyB P md ops Q S k (fuel + 1) listed a w := by
  subst hb
  refine ⟨fun h0 => (by rw [hr] at h0; cases h0), fun j hj => ?_⟩
  rw [hr] at hj
  have : j = i := by simpa using hj
  subst this
  exact wpOp_step hi (fun K' hK => h K' (fun a w hS hW => hK a w ⟨hS, hW⟩))
theorem wpAnyB_two {i j : Nat} {oi oj : Oper} {fuel : Nat} {listed : Array Bool} {a : Act} {w : World} (b : Bool) (hi : ops[i]? = some oi) (hj : ops[j]? = some oj) (hr : Region.ready md ops listed = [i, j])
    (hb : (listed.setIfInBounds i true).getD k false = b) (hb' : (listed.setIfInBounds j true).getD k false = b)
    (h : ∀ K' : Act → World → Prop, Shut (∀ a w, S b w → wpAnyB P md ops Q S k fuel (listed.setIfInBounds i true) a w → K' a w) → if Region.wanted oi (yielded ops a.tmps) = true then Oper.wp P oi a w K' Q else K' (a.put oi.dst undef) w)
    (h' : ∀ K' : Act → World → Prop, Shut (∀ a w, S b w → wpAnyB P md ops Q S k fuel (listed.setIfInBounds j true) a w → K' a w) → if Region.wanted oj (yielded ops a.tmps) = true then Oper.wp P oj a w K' Q else K' (a.put oj.dst undef) w) : wpAnyB P md ops Q S k (fuel + 1) listed a w := by
  subst hb
  refine ⟨fun h0 => (by rw [hr] at h0; cases h0), fun t ht => ?_⟩
  rw [hr] at ht
  have : t = i ∨ t = j := by simpa using ht
  rcases this with rfl | rfl
  · exact wpOp_step hi (fun K' hK => h K' (fun a w hS hW => hK a w ⟨hS, hW⟩))
  · exact wpOp_step hj (fun K' hK => h' K' (fun a w hS hW => hK a w ⟨hb' ▸ hS, hW⟩))
theorem wpAnyB_done {listed : Array Bool} {a : Act} {w : World} (hr : Region.ready md ops listed = []) (h : Q .normal a w) : ∀ fuel, wpAnyB P md ops Q S k fuel listed a w
  | 0 => ⟨hr, h⟩
  | _ + 1 => ⟨fun _ => h, by rw [hr]; simp⟩
theorem wp_region_B {id : Nat} {a : Act} {w : World} (S : Bool → World → Prop) (k : Nat) (hm : P.follows .mixedOrders = true)
    (h : wpAnyB P .any ops Q S k ops.size (Array.replicate ops.size false) a w.drew) : (Code.region id ops true).wp P Q a w :=
  wp_region_any hm (wpAny_of_B _ _ _ _ h)
end
end Go.Proofs.Ytdimfbmbomgiaaa
/-
  Contract of cloth's swap: the line's two cells are exchanged, all else lies as it lay.
-/
namespace Go.Proofs.Ytdimfbmbomgiaaa
open Go.RowKit
/-- all blocks but one lie as they lay -/
structure KeepC (gL : Nat) (A B : World) : Prop where
  os : B.os = A.os
  tape : B.tape = A.tape
  output : B.output = A.output
  size : A.heap.size ≤ B.heap.size
  same : ∀ r, r < A.heap.size → r ≠ gL → B.heap[r]? = A.heap[r]?
theorem KeepC.trans {gL : Nat} {A B C : World} (h : KeepC gL A B) (k : KeepC gL B C) : KeepC gL A C :=
  ⟨k.os.trans h.os, k.tape.trans h.tape, k.output.trans h.output, Nat.le_trans h.size k.size, fun r hr hl => (k.same r (Nat.lt_of_lt_of_le hr h.size) hl).trans (h.same r hr hl)⟩
theorem KeepC.of_below {gL : Nat} {A B : World} (h : Below A.heap.size A B) : KeepC gL A B := ⟨h.os, h.tape, h.output, h.size, fun r hr _ => h.block r hr⟩
theorem KeepC.drew {gL : Nat} {A B : World} (h : KeepC gL A B) : KeepC gL A B.drew := ⟨h.os, h.tape, h.output, h.size, h.same⟩
theorem KeepC.set {g : Nat} (A : World) (i : Nat) (u : Value) : KeepC g A (A.setCell ⟨g, i, none⟩ u) := by
  have h := (Below.refl 0 A).setCell (p := ⟨g, i, none⟩) (Nat.zero_le _) u
  exact ⟨h.os, h.tape, h.output, h.size, fun r _ hl => Below.heap_setCell A _ u r hl⟩
theorem KeepsOthers.drew (W : World) : KeepsOthers W W.drew := ⟨Nat.le_refl _, fun _ _ h _ => h⟩
set_option maxRecDepth 100000 in
set_option maxHeartbeats 1000000 in
theorem swap65 (g i : Nat) (cs : List Value) (va vb : Int) (w : World) (hh : Has w g 109 cs) (hi : i + 1 < 48) (ha' : cs[i]? = some (.int .i64 va)) (hb' : cs[i + 1]? = some (.int .i64 vb)) :
    Calls Try.prog 65 #[.pointer (some ⟨g, 0, none⟩), .int .i64 (i : Int)] w fun e w' => (∃ v, e = .returned v) ∧ Has w' g 109 ((cs.set i (.int .i64 vb)).set (i + 1) (.int .i64 va)) ∧ KeepC g w w' ∧ KeepsOthers w w' := by
  have hg := hh.lt
  have ha : w.cell? ⟨g, i, none⟩ = some (.int .i64 va) := (hh.cell i).trans ha'
  have hb : w.cell? ⟨g, i + 1, none⟩ = some (.int .i64 vb) := (hh.cell (i + 1)).trans hb'
  have i1 : IntKind.i64.wrap ((i : Int) + 1) = (i : Int) + 1 := IntWalk.i64_in _ (by omega)
  have i2 : ((i : Int) + 1).toNat = i + 1 := by omega
  have i3 : (0 : Int) ≤ (i : Int) + 1 := by omega
  have i4 : (i : Int) + 1 < 48 := by omega
  have i5 : (i : Int) < 48 := by omega
  have i6 : i < 48 := by omega
  go_enter Try.func65, Try.ntmps65
  go_wp2
  refine wp_region_noPanic ?_
  refine wp_region_B (fun b w' => g < w'.heap.size ∧ (b = false → w'.cell? ⟨g, i, none⟩ = some (.int .i64 va) ∧ w'.cell? ⟨g, i + 1, none⟩ = some (.int .i64 vb))) 18 (by kernel_rfl) ?_
  have hSS : (fun b w' => g < w'.heap.size ∧ (b = false → w'.cell? ⟨g, i, none⟩ = some (.int .i64 va) ∧ w'.cell? ⟨g, i + 1, none⟩ = some (.int .i64 vb))) false (w.drew) := ⟨hg, fun _ => ⟨ha, hb⟩⟩
  refine wpAnyB_take (i := 0) (oi := _) (v := ?vv1) (fun w' => g < w'.heap.size) rfl (by kernel_rfl) (by kernel_rfl) (by kernel_rfl) (by kernel_rfl) (by rfl) (fun _ h => h.1) (.inl fun _ h => h.1) (fun _ _ _ h => h) (.inl ⟨by rfl, ?hy1⟩) hSS ?_
  case hy1 =>
    intro w' hSw
    try dsimp only at hSw
    go_simp
    all_goals with_reducible rfl
  try simp only [Act.put, List.setIfInBounds_toArray]
  refine wpAnyB_take (i := 1) (oi := _) (v := ?vv2) (fun w' => g < w'.heap.size) rfl (by kernel_rfl) (by kernel_rfl) (by kernel_rfl) (by kernel_rfl) (by rfl) (fun _ h => h.1) (.inl fun _ h => h.1) (fun _ _ _ h => h) (.inl ⟨by rfl, ?hy2⟩) hSS ?_
  case hy2 =>
    intro w' hSw
    try dsimp only at hSw
    go_simp
    all_goals with_reducible rfl
  try simp only [Act.put]
  refine wpAnyB_take (i := 2) (oi := _) (v := ?vv3) (fun w' => g < w'.heap.size) rfl (by kernel_rfl) (by kernel_rfl) (by kernel_rfl) (by kernel_rfl) (by rfl) (fun _ h => h.1) (.inl fun _ h => h.1) (fun _ _ _ h => h) (.inl ⟨by rfl, ?hy3⟩) hSS ?_
  case hy3 =>
    intro w' hSw
    try dsimp only at hSw
    go_simp
    all_goals with_reducible rfl
  try simp only [Act.put]
  refine wpAnyB_take (i := 3) (oi := _) (v := ?vv4) (fun w' => g < w'.heap.size) rfl (by kernel_rfl) (by kernel_rfl) (by kernel_rfl) (by kernel_rfl) (by rfl) (fun _ h => h.1) (.inl fun _ h => h.1) (fun _ _ _ h => h) (.inl ⟨by rfl, ?hy4⟩) hSS ?_
  case hy4 =>
    intro w' hSw
    try dsimp only at hSw
    go_simp
    all_goals with_reducible rfl
  try simp only [Act.put]
  refine wpAnyB_take (i := 4) (oi := _) (v := ?vv5) (fun w' => g < w'.heap.size) rfl (by kernel_rfl) (by kernel_rfl) (by kernel_rfl) (by kernel_rfl) (by rfl) (fun _ h => h.1) (.inl fun _ h => h.1) (fun _ _ _ h => h) (.inl ⟨by rfl, ?hy5⟩) hSS ?_
  case hy5 =>
    intro w' hSw
    try dsimp only at hSw
    go_simp
    all_goals with_reducible rfl
  try simp only [Act.put]
  refine wpAnyB_take (i := 5) (oi := _) (v := ?vv6) (fun w' => g < w'.heap.size) rfl (by kernel_rfl) (by kernel_rfl) (by kernel_rfl) (by kernel_rfl) (by rfl) (fun _ h => h.1) (.inl fun _ h => h.1) (fun _ _ _ h => h) (.inl ⟨by rfl, ?hy6⟩) hSS ?_
  case hy6 =>
    intro w' hSw
    try dsimp only at hSw
    go_simp
    all_goals with_reducible rfl
  try simp only [Act.put]
  refine wpAnyB_take (i := 6) (oi := _) (v := ?vv7) (fun w' => g < w'.heap.size) rfl (by kernel_rfl) (by kernel_rfl) (by kernel_rfl) (by kernel_rfl) (by rfl) (fun _ h => h.1) (.inl fun _ h => h.1) (fun _ _ _ h => h) (.inl ⟨by rfl, ?hy7⟩) hSS ?_
  case hy7 =>
    intro w' hSw
    try dsimp only at hSw
    go_simp
    all_goals with_reducible rfl
  try simp only [Act.put]
  refine wpAnyB_take (i := 7) (oi := _) (v := ?vv8) (fun w' => g < w'.heap.size) rfl (by kernel_rfl) (by kernel_rfl) (by kernel_rfl) (by kernel_rfl) (by rfl) (fun _ h => h.1) (.inl fun _ h => h.1) (fun _ _ _ h => h) (.inl ⟨by rfl, ?hy8⟩) hSS ?_
  case hy8 =>
    intro w' hSw
    try dsimp only at hSw
    go_simp
    all_goals with_reducible rfl
  try simp only [Act.put]
  refine wpAnyB_take (i := 8) (oi := _) (v := ?vv9) (fun w' => g < w'.heap.size) rfl (by kernel_rfl) (by kernel_rfl) (by kernel_rfl) (by kernel_rfl) (by rfl) (fun _ h => h.1) (.inl fun _ h => h.1) (fun _ _ _ h => h) (.inl ⟨by rfl, ?hy9⟩) hSS ?_
  case hy9 =>
    intro w' hSw
    try dsimp only at hSw
    go_simp
    all_goals with_reducible rfl
  try simp only [Act.put]
  refine wpAnyB_take (i := 9) (oi := _) (v := ?vv10) (fun w' => g < w'.heap.size) rfl (by kernel_rfl) (by kernel_rfl) (by kernel_rfl) (by kernel_rfl) (by rfl) (fun _ h => h.1) (.inl fun _ h => h.1) (fun _ _ _ h => h) (.inl ⟨by rfl, ?hy10⟩) hSS ?_
  case hy10 =>
    intro w' hSw
    try dsimp only at hSw
    go_simp
    all_goals with_reducible rfl
  try simp only [Act.put]
  refine wpAnyB_take (i := 10) (oi := _) (v := ?vv11) (fun w' => g < w'.heap.size ∧ w'.cell? ⟨g, i, none⟩ = some (.int .i64 va) ∧ w'.cell? ⟨g, i + 1, none⟩ = some (.int .i64 vb)) rfl (by kernel_rfl) (by kernel_rfl) (by kernel_rfl) (by kernel_rfl) (by rfl) (fun _ h => ⟨h.1, h.2 rfl⟩) (.inr (by kernel_rfl)) (fun _ _ _ h => h) (.inl ⟨by rfl, ?hy11⟩) hSS ?_
  case hy11 =>
    intro w' hSw
    try dsimp only at hSw
    go_simp
    all_goals with_reducible rfl
  try simp only [Act.put]
  refine wpAnyB_take (i := 11) (oi := _) (v := ?vv12) (fun w' => g < w'.heap.size) rfl (by kernel_rfl) (by kernel_rfl) (by kernel_rfl) (by kernel_rfl) (by rfl) (fun _ h => h.1) (.inl fun _ h => h.1) (fun _ _ _ h => h) (.inl ⟨by rfl, ?hy12⟩) hSS ?_
  case hy12 =>
    intro w' hSw
    try dsimp only at hSw
    go_simp
    all_goals with_reducible rfl
  try simp only [Act.put]
  refine wpAnyB_take (i := 12) (oi := _) (v := ?vv13) (fun w' => g < w'.heap.size) rfl (by kernel_rfl) (by kernel_rfl) (by kernel_rfl) (by kernel_rfl) (by rfl) (fun _ h => h.1) (.inl fun _ h => h.1) (fun _ _ _ h => h) (.inl ⟨by rfl, ?hy13⟩) hSS ?_
  case hy13 =>
    intro w' hSw
    try dsimp only at hSw
    go_simp
    all_goals with_reducible rfl
  try simp only [Act.put]
  refine wpAnyB_take (i := 13) (oi := _) (v := ?vv14) (fun w' => g < w'.heap.size) rfl (by kernel_rfl) (by kernel_rfl) (by kernel_rfl) (by kernel_rfl) (by rfl) (fun _ h => h.1) (.inl fun _ h => h.1) (fun _ _ _ h => h) (.inl ⟨by rfl, ?hy14⟩) hSS ?_
  case hy14 =>
    intro w' hSw
    try dsimp only at hSw
    go_simp
    all_goals with_reducible rfl
  try simp only [Act.put]
  refine wpAnyB_take (i := 14) (oi := _) (v := ?vv15) (fun w' => g < w'.heap.size) rfl (by kernel_rfl) (by kernel_rfl) (by kernel_rfl) (by kernel_rfl) (by rfl) (fun _ h => h.1) (.inl fun _ h => h.1) (fun _ _ _ h => h) (.inl ⟨by rfl, ?hy15⟩) hSS ?_
  case hy15 =>
    intro w' hSw
    try dsimp only at hSw
    go_simp
    all_goals with_reducible rfl
  try simp only [Act.put]
  refine wpAnyB_take (i := 15) (oi := _) (v := ?vv16) (fun w' => g < w'.heap.size ∧ w'.cell? ⟨g, i, none⟩ = some (.int .i64 va) ∧ w'.cell? ⟨g, i + 1, none⟩ = some (.int .i64 vb)) rfl (by kernel_rfl) (by kernel_rfl) (by kernel_rfl) (by kernel_rfl) (by rfl) (fun _ h => ⟨h.1, h.2 rfl⟩) (.inr (by kernel_rfl)) (fun _ _ _ h => h) (.inl ⟨by rfl, ?hy16⟩) hSS ?_
  case hy16 =>
    intro w' hSw
    try dsimp only at hSw
    go_simp
    all_goals with_reducible rfl
  try simp only [Act.put]
  refine wpAnyB_take (i := 16) (oi := _) (v := ?vv17) (fun w' => g < w'.heap.size) rfl (by kernel_rfl) (by kernel_rfl) (by kernel_rfl) (by kernel_rfl) (by rfl) (fun _ h => h.1) (.inl fun _ h => h.1) (fun _ _ _ h => h) (.inl ⟨by rfl, ?hy17⟩) hSS ?_
  case hy17 =>
    intro w' hSw
    try dsimp only at hSw
    go_simp
    all_goals with_reducible rfl
  try simp only [Act.put]
  refine wpAnyB_take (i := 17) (oi := _) (v := ?vv18) (fun w' => g < w'.heap.size) rfl (by kernel_rfl) (by kernel_rfl) (by kernel_rfl) (by kernel_rfl) (by rfl) (fun _ h => h.1) (.inl fun _ h => h.1) (fun _ _ _ h => h) (.inl ⟨by rfl, ?hy18⟩) hSS ?_
  case hy18 =>
    intro w' hSw
    try dsimp only at hSw
    go_simp
    all_goals with_reducible rfl
  try simp only [Act.put]
  refine wpAnyB_take (i := 19) (oi := _) (v := ?vv19) (fun w' => g < w'.heap.size) rfl (by kernel_rfl) (by kernel_rfl) (by kernel_rfl) (by kernel_rfl) (by rfl) (fun _ h => h.1) (.inl fun _ h => h.1) (fun _ _ _ h => h) (.inl ⟨by rfl, ?hy19⟩) hSS ?_
  case hy19 =>
    intro w' hSw
    try dsimp only at hSw
    go_simp
    all_goals with_reducible rfl
  try simp only [Act.put]
  refine wpAnyB_one (i := 18) true rfl (by kernel_rfl) (by kernel_rfl) ?_
  intro KK hKK
  have y0 := hh.free i
  go_simp
  clear y0
  have h8 := hh.set i (.int .i64 vb)
  generalize hw8 : w.setCell ⟨g, i, none⟩ (.int .i64 vb) = w8 at *
  refine hKK.out _ _ ⟨h8.lt, fun hh => by cases hh⟩ ?_
  clear hKK KK
  try simp only [Act.put, List.setIfInBounds_toArray, List.set_cons_zero, List.set_cons_succ]
  refine wpAnyB_one (i := 20) true rfl (by kernel_rfl) (by kernel_rfl) ?_
  intro KK hKK
  go_simp
  refine hKK.out _ _ ⟨h8.lt, fun hh => by cases hh⟩ ?_
  clear hKK KK
  try simp only [Act.put, List.setIfInBounds_toArray, List.set_cons_zero, List.set_cons_succ]
  refine wpAnyB_one (i := 21) true rfl (by kernel_rfl) (by kernel_rfl) ?_
  intro KK hKK
  have y0 := h8.free (i + 1)
  have y1 : w8.cell? ⟨g, i + 1, none⟩ = some (.int .i64 vb) := by rw [h8.cell, List.getElem?_set_ne (by omega)]; exact hb'
  go_simp
  clear y0 y1
  refine hKK.out _ _ ⟨(h8.set (i + 1) (.int .i64 va)).lt, fun hh => by cases hh⟩ ?_
  clear hKK KK
  try simp only [Act.put, List.setIfInBounds_toArray, List.set_cons_zero, List.set_cons_succ]
  refine wpAnyB_done (by kernel_rfl) (NoPanic.normal ?_) _
  have hk8 : KeepC g w w8 ∧ KeepsOthers w w8 := by
    rw [← hw8]
    exact ⟨KeepC.set w i _, KeepsOthers.setCell _ _ _⟩
  have hk9 : KeepC g w (w8.setCell ⟨g, i + 1, none⟩ (.int .i64 va)).drew := (hk8.1.trans (KeepC.set w8 (i + 1) _)).drew
  go_end0
  exact ⟨⟨_, rfl⟩, (h8.set (i + 1) (.int .i64 va)).drew, hk9, hk8.2.trans ((KeepsOthers.setCell _ _ _).trans (KeepsOthers.drew _))⟩
end Go.Proofs.Ytdimfbmbomgiaaa
/-
  A region that draws and holds a call of yield, at the wide fence: a condition S holds throughout; what only reads under S is taken first.
-/
namespace Go.Proofs.Ytdimfbmbomgiaaa
open Go
section
variable {P : Program} {ops : Array Oper} {Q : Exit → Act → World → Prop} {md : Region.Mode} {S : World → Prop} {n : Nat}
theorem opI_put {j : Nat} {oi oj : Oper} {v : Value} (hj : ops[j]? = some oj) (hap : oi.apart ops oj = true)
    (hsi : ∀ cs b, oi.op ≠ .select cs b) (hsj : ∀ cs b, oj.op ≠ .select cs b)
    (hQ : ∀ c a w, Q (.panic c) (a.put oi.dst v) w → Q (.panic c) a w) {K : Act → World → Prop} {a : Act} {w : World}
    (hy : YieldsIf P ops S oi v a) (h : wpOpIn Fence.wide n P ops Q j K (a.put oi.dst v) w) :
    wpOpIn Fence.wide n P ops Q j (fun a' w' => YieldsIf P ops S oi v a' ∧ K (a'.put oi.dst v) w') a w := by
  obtain ⟨h1, h2, h3⟩ := Oper.apart_spec hap
  have stay : ∀ u, YieldsIf P ops S oi v (a.put oj.dst u) := fun u => hy.of_same (execOp_put oi hsi a oj.dst u h3) (wanted_put oi a oj.dst u h3)
  have fin : ∀ u w', K ((a.put oi.dst v).put oj.dst u) w' → YieldsIf P ops S oi v (a.put oj.dst u) ∧ K ((a.put oj.dst u).put oi.dst v) w' := fun u w' hk => ⟨stay u, by rw [← Act.put_comm a v u h2]; exact hk⟩
  unfold wpOpIn at h ⊢
  simp only [hj] at h ⊢
  rw [wanted_put oj a oi.dst v h1] at h
  by_cases hw : Region.wanted oj (yielded ops a.tmps) = true
  · rw [if_pos hw] at h ⊢
    refine ⟨fun _ _ => trivial, ?_⟩
    have h' := h.2
    rw [show Fence.wide.round = none from rfl, Oper.semAt_none] at h' ⊢
    rw [execOp_put oj hsj a oi.dst v h1] at h'
    cases hr : (execOp a.eval oj).run P w with
    | ok x w' =>
      rw [hr] at h'
      cases x with
      | value u => exact fin _ _ h'
      | skip => exact fin _ _ h'
      | defer dd =>
        have st : YieldsIf P ops S oi v ({ a with defers := dd :: a.defers }.put oj.dst undef) :=
          (hy.of_same (a' := { a with defers := dd :: a.defers }) rfl rfl).of_same (execOp_put oi hsi _ oj.dst undef h3) (wanted_put oi _ oj.dst undef h3)
        refine ⟨st, ?_⟩
        rw [← Act.put_comm _ v undef h2, ← Act.put_defers]
        exact h'
      | enter f args =>
        refine ⟨h'.1, CallsIn.mono h'.2 fun e w'' he => ?_⟩
        cases e with
        | returned u => exact fin _ _ he
        | panicked c => exact hQ _ _ _ he
        | outgrown => exact he
      | row row args => exact ⟨h'.1, RowsIn.mono h'.2 fun u w'' he => fin _ _ he⟩
      | round l f tmps assign body =>
        refine ⟨h'.1, RoundIn.mono h'.2 fun e w'' he => ?_⟩
        cases e with
        | returned u => exact fin _ _ he
        | panicked c => exact hQ _ _ _ he
        | outgrown => exact he
      | _ => first | exact h' | exact h'.elim
    | halt x w' =>
      rw [hr] at h'
      cases x with
      | panic u => exact hQ _ _ _ h'
      | _ => first | exact h' | exact h'.elim
  · rw [if_neg hw] at h ⊢
    exact ⟨fun _ _ => trivial, fin _ _ h.2⟩
theorem opI_yields {i : Nat} {o : Oper} {v : Value} {a : Act} (hi : ops[i]? = some o) (hy : YieldsIf P ops S o v a)
    {K : Act → World → Prop} {w : World} (hS : S w) (h : K (a.put o.dst v) w) : wpOpIn Fence.wide n P ops Q i K a w := by
  unfold Go.wpOpIn
  simp only [hi]
  rcases hy with ⟨hw, hv⟩ | ⟨hw, rfl⟩
  · rw [if_pos hw]
    refine ⟨fun _ _ => trivial, ?_⟩
    rw [show Fence.wide.round = none from rfl, Oper.semAt_none, hv w hS]
    exact h
  · rw [if_neg (by rw [hw]; simp)]
    exact ⟨fun _ _ => trivial, h⟩
def anyI (n : Nat) (P : Program) (md : Region.Mode) (ops : Array Oper) (Q : Exit → Act → World → Prop) (S : World → Prop) : Nat → Array Bool → Act → World → Prop
  | 0, listed, a, w => Region.ready md ops listed = [] ∧ Q .normal a w
  | fuel + 1, listed, a, w =>
    (Region.ready md ops listed = [] → Q .normal a w) ∧
    ∀ i ∈ Region.ready md ops listed, wpOpIn Fence.wide n P ops Q i (fun a' w' => S w' ∧ anyI n P md ops Q S fuel (listed.setIfInBounds i true) a' w') a w
theorem anyIn_of_I : ∀ (fuel : Nat) (listed : Array Bool) (a : Act) (w : World), anyI n P md ops Q S fuel listed a w → wpAnyIn Fence.wide n P md ops Q fuel listed a w
  | 0, _, _, _, h => h
  | fuel + 1, _, _, _, h => ⟨h.1, fun i hi => wpOpIn_mono (fun a' w' h' => anyIn_of_I fuel _ a' w' h'.2) (h.2 i hi)⟩
theorem anyI_first {i : Nat} {oi : Oper} {v : Value} (hi : ops[i]? = some oi) (hsel : ∀ (j : Nat) (o : Oper) cs b, ops[j]? = some o → o.op ≠ .select cs b)
    (hQ : ∀ c a w, Q (.panic c) (a.put oi.dst v) w → Q (.panic c) a w) :
    ∀ (fuel : Nat) (listed : Array Bool) (a : Act) (w : World),
      (∀ j oj, ops[j]? = some oj → j ≠ i → listed.getD j true = false → (∀ e ∈ oj.after, Region.binds md e = true → e.on ≠ i) → oi.apart ops oj = true) →
      i ∈ Region.ready md ops listed → YieldsIf P ops S oi v a → S w →
      anyI n P md ops Q S fuel (listed.setIfInBounds i true) (a.put oi.dst v) w → anyI n P md ops Q S (fuel + 1) listed a w := by
  intro fuel
  induction fuel with
  | zero =>
    intro listed a w _ hr hy hS H
    refine ⟨fun h => (by rw [h] at hr; cases hr), fun j hj => ?_⟩
    by_cases hji : j = i
    · subst hji
      exact opI_yields hi hy hS ⟨hS, H⟩
    · have := ready_mono hj hji
      rw [H.1] at this
      cases this
  | succ fuel ih =>
    intro listed a w hfree hr hy hS H
    refine ⟨fun h => (by rw [h] at hr; cases hr), fun j hj => ?_⟩
    by_cases hji : j = i
    · subst hji
      exact opI_yields hi hy hS ⟨hS, H⟩
    · have h1 := H.2 j (ready_mono hj hji)
      obtain ⟨hjun, oj, hoj, hall⟩ := mem_ready.1 hj
      have hun := (mem_ready.1 hr).1
      have hnot : ∀ e ∈ oj.after, Region.binds md e = true → e.on ≠ i := fun e he hb heq => by
        have h1 := hall e he hb
        rw [heq, getD_both hun] at h1
        cases h1
      have h2 := opI_put hoj (hfree j oj hoj hji hjun hnot) (fun cs b => hsel i oi cs b hi) (fun cs b => hsel j oj cs b hoj) hQ hy h1
      have hfree' : ∀ t ot, ops[t]? = some ot → t ≠ i → (listed.setIfInBounds j true).getD t true = false →
          (∀ e ∈ ot.after, Region.binds md e = true → e.on ≠ i) → oi.apart ops ot = true := fun t ot ht hti hun hno => by
        refine hfree t ot ht hti ?_ hno
        by_cases hjt : j = t
        · subst hjt; exact hjun
        · rw [getD_set_ne true hjt] at hun; exact hun
      refine wpOpIn_mono (fun a' w' h3 => ?_) h2
      refine ⟨h3.2.1, ih (listed.setIfInBounds j true) a' w' hfree' (ready_mono hr (Ne.symm hji)) h3.1 h3.2.1 ?_⟩
      rw [Array.setIfInBounds_comm _ _ hji]
      exact h3.2.2
theorem anyI_take {i : Nat} {oi : Oper} {v : Value} {fuel : Nat} {listed : Array Bool} {a : Act} {w : World} (hi : ops[i]? = some oi)
    (hs : Region.noSelect ops = true) (hf : Region.free md ops listed i = true) (hr : (Region.ready md ops listed).contains i = true)
    (hQ : ∀ c a w, Q (.panic c) (a.put oi.dst v) w → Q (.panic c) a w) (hy : YieldsIf P ops S oi v a) (hS : S w)
    (h : anyI n P md ops Q S fuel (listed.setIfInBounds i true) (a.put oi.dst v) w) : anyI n P md ops Q S (fuel + 1) listed a w :=
  anyI_first hi (Region.noSelect_spec hs) hQ fuel listed a w (Region.free_spec hi hf) (by simpa using hr) hy hS h
theorem anyI_one {i : Nat} {oi : Oper} {fuel : Nat} {listed : Array Bool} {a : Act} {w : World} (hi : ops[i]? = some oi) (hr : Region.ready md ops listed = [i])
    (h : wpOpIn Fence.wide n P ops Q i (fun a' w' => S w' ∧ anyI n P md ops Q S fuel (listed.setIfInBounds i true) a' w') a w) : anyI n P md ops Q S (fuel + 1) listed a w := by
  refine ⟨fun h0 => (by rw [hr] at h0; cases h0), fun j hj => ?_⟩
  rw [hr] at hj
  have : j = i := by simpa using hj
  subst this
  exact h
theorem anyI_done {listed : Array Bool} {a : Act} {w : World} (hr : Region.ready md ops listed = []) (h : Q .normal a w) : ∀ fuel, anyI n P md ops Q S fuel listed a w
  | 0 => ⟨hr, h⟩
  | _ + 1 => ⟨fun _ => h, by rw [hr]; simp⟩
theorem wp_region_I {id : Nat} {a : Act} {w : World} (S : World → Prop) (hm : P.follows .mixedOrders = true)
    (h : anyI 0 P .any ops Q S ops.size (Array.replicate ops.size false) a w.drew) : (Code.region id ops true).wp P Q a w :=
  wpIn_wide.1 (wpIn_region_any (F := Fence.wide) (n := 0) hm (anyIn_of_I _ _ _ _ h))
end
end Go.Proofs.Ytdimfbmbomgiaaa
