/-
  Contracts of chapter 16: torchonref02's Perm of a word that is valid.
-/
import Derived.Test.YtaenafcecfdffaaVA3
import Derived.Test.YtaenafcecfdffaaVA7
import Derived.Laws.CopyOwn
import Derived.Deep.Cut
namespace Go.Proofs.Ytaenafcecfdffaa
open Go.RowKit
theorem mkI02 (n : Nat) (hn : n ≤ 1000) (W : World) : (Instr.makeSlice 39 (.int .i64 (n : Int)) (.int .i64 (n : Int))).run Try.prog W = .ok (.slice (some ⟨W.heap.size, 0, none⟩) n n) (W.alloc (.cells ((List.replicate n (0 : Int)).map vInt).toArray 3)) := by
  obtain ⟨i, hi, hz, hs, hb⟩ := info_parts infoInt
  have h := run_make (P := Try.prog) W 39 3 i (.int .i64 0) Try.underlying39 hi hz .i64 .i64 (n : Int) (n : Int) (by omega) (Int.le_refl _) (by rw [hb]; omega) (by omega)
  rw [hs] at h
  have e : madeCells #[.int .i64 0] n = ((List.replicate n (0 : Int)).map vInt).toArray := by
    apply Array.ext'
    rw [toList_madeCells_one, List.map_replicate]
  simpa [Value.cells, e] using h
set_option maxRecDepth 100000 in
set_option maxHeartbeats 1000000 in
theorem line02 (n : Nat) (hn : n ≤ 1000) (w : World) : Calls Try.prog 42 #[.int .i64 (n : Int)] w (RetO (lineN n) w) := by
  go_enter Try.func42, Try.ntmps42
  go_wp2
  go_loopw [3, 4] (fun v i wr => ∃ (k : Nat) (A' : Option Addr) (c' : Nat), k ≤ n ∧ i = .int .i64 (k : Int) ∧ v = .slice A' k c' ∧ Hid (wr.ownsRow w.heap.size 3 1 v k ((lineN k).map vInt)) ∧ Hid (Below w.heap.size w wr)) (fun _ i _ => n - (intOf i).toNat)
  case atStart => exact ⟨0, none, 0, Nat.zero_le _, rfl, rfl, World.ownsRow_nil _ _ _ _, by show Below _ _ _; exact Below.refl _ _⟩
  case round =>
    obtain ⟨k, A', c', hk, rfl, rfl, HO, HB⟩ := hrel
    obtain ⟨wo, rfl⟩ : ∃ wo : World, wo = wr := ⟨_, rfl⟩
    have hz := HB.out.size
    by_cases hlt : k < n
    · have jk : (k : Int) < (n : Int) := by omega
      go_wp2_with (at_builtin; refine wpList_app rfl (.tmp 10) (.tmp 12) _ rfl w.heap.size 3 (.int .i64 0) 1 8 Try.underlying39 infoInt rfl (by omega) (by omega) (.slice A' k c') _ _ rfl (HO.out.alloc _) wo.heap.size [vInt (k : Int)] rfl rfl (news_new _ _ _) (one_int _ _) (by omega) (by simp; omega) ?_; intro g1 cap1 w3 hg1 hown1 hgrow1 hor1)
      go_roundw
      case rel =>
        refine ⟨k + 1, _, cap1, by omega, by go_num, rfl, ?_, ?_⟩
        · show World.ownsRow _ _ _ _ _ _ _
          rw [lineN_succ, List.map_append]; exact hown1
        · show Below _ _ _
          exact (HB.out.alloc hz (.cells #[.int .i64 (k : Int)] 3)).grown hgrow1 (by simp; omega) (fun k hk => (HO.out.lt k hk).1)
      case measure => first | (simp [intOf]; done) | (simp [intOf]; omega)
    · obtain rfl : k = n := by omega
      have jk : ¬ (k : Int) < (k : Int) := by omega
      go_wp2
      go_ret
      exact ⟨A', k, c', rfl, HO.out, lineN_len k, HB.out⟩
def absN (n : Int) : Nat := n.natAbs
set_option maxRecDepth 100000 in
set_option maxHeartbeats 400000 in
theorem size02 (n : Int) (hn : -1000 ≤ n ∧ n ≤ 1000) (w : World) : Calls Try.prog 43 #[.int .i64 n] w fun e w' => e = .returned (.int .i64 (n.natAbs : Int)) ∧ w = w' := by
  have i1 : IntKind.i64.wrap (-n) = -n := IntWalk.i64_in _ (by omega)
  by_cases h : 0 ≤ n
  · by_cases h0 : n = 0
    · subst h0
      go_enter Try.func43, Try.ntmps43
      go_wp2
      go_ret
      exact ⟨rfl, rfl⟩
    · have d1 : decide (n < -n) = false := decide_eq_false (by omega)
      obtain ⟨m, hm⟩ : ∃ m : Nat, m = n.natAbs := ⟨_, rfl⟩
      have hn2 : n = (m : Int) := by omega
      rw [← hm]
      have HN := Lib.hid hn2
      clear hm hn2
      go_enter Try.func43, Try.ntmps43
      go_wp2
      go_ret
      rw [← HN.out]
      exact ⟨rfl, rfl⟩
  · have d1 : decide (n < -n) = true := decide_eq_true (by omega)
    obtain ⟨m, hm⟩ : ∃ m : Nat, m = n.natAbs := ⟨_, rfl⟩
    have hn2 : -n = (m : Int) := by omega
    rw [← hm]
    have HN := Lib.hid hn2
    clear hm hn2
    go_enter Try.func43, Try.ntmps43
    go_wp2
    go_ret
    rw [← HN.out]
    exact ⟨rfl, rfl⟩
/-- a word that is valid -/
def WordOk (n : Nat) (ws : List Int) : Prop := 1 ≤ n ∧ n ≤ 12 ∧ ws.length ≤ 400 ∧ ∀ u ∈ ws, u ≠ 0 ∧ -(n : Int) < u ∧ u < (n : Int)
set_option maxRecDepth 100000 in
set_option maxHeartbeats 1000000 in
theorem check02 (n : Nat) (A : Option Addr) (m c : Nat) (us : List Int) (w : World) (hr : RdI w w.heap.size A us) (hl : us.length = m) (hok : WordOk n us) :
    Calls Try.prog 41 #[.int .i64 (n : Int), .slice A m c] w fun e w' => e = .returned (.int .i64 0) ∧ w = w' := by
  have HR := Lib.hid hr
  have HL := Lib.hid hl
  obtain ⟨h1, h2, h3, h4⟩ := hok
  have H4 := Lib.hid h4
  rw [hl] at h3
  clear hr hl h4
  have d1 : decide ((n : Int) < 1) = false := decide_eq_false (by omega)
  have d2 : decide ((12 : Int) < (n : Int)) = false := decide_eq_false (by omega)
  have d3 : decide ((400 : Int) < (m : Int)) = false := decide_eq_false (by omega)
  have d1' : decide (n < 1) = false := decide_eq_false (by omega)
  have i1 : IntKind.i64.wrap (-(n : Int)) = -(n : Int) := IntWalk.i64_in _ (by omega)
  go_enter Try.func41, Try.ntmps41
  go_wp2
  go_loopw [5] (fun i wr => ∃ k : Nat, k ≤ m ∧ i = .int .i64 (k : Int) ∧ w = wr) (fun i _ => m - (intOf i).toNat)
  case atStart => exact ⟨0, Nat.zero_le _, rfl, rfl⟩
  case round =>
    obtain ⟨k, hk, rfl, rfl⟩ := hrel
    by_cases hlt : k < m
    · have jk : (k : Int) < (m : Int) := by omega
      obtain ⟨u, hu⟩ := get_of_lt (l := us) (k := k) (by rw [HL.out]; exact hlt)
      obtain ⟨b, o, rfl, hb, c0⟩ := HR.out k u hu
      obtain ⟨e1, e2, e3⟩ := H4.out u (mem_of_get hu)
      have g1 : (u == 0) = false := by simpa using e1
      have g2 : decide (u ≤ -(n : Int)) = false := decide_eq_false (by omega)
      have g3 : decide ((n : Int) ≤ u) = false := decide_eq_false (by omega)
      clear hu
      go_wp2
      go_roundw
      case rel => exact ⟨k + 1, by omega, by go_num, by first | rfl | trivial⟩
      case measure => first | (simp [intOf]; done) | (simp [intOf]; omega)
    · obtain rfl : k = m := by omega
      have jk : ¬ (k : Int) < (k : Int) := by omega
      go_wp2
      go_ret
      exact ⟨rfl, rfl⟩
theorem hasI_rd {w : World} {g : Nat} {cs : List Int} (h : Has w g 3 (cs.map vInt)) : RdI w w.heap.size (some ⟨g, 0, none⟩) cs := fun k x hx => ⟨g, 0, rfl, h.lt, by rw [Nat.zero_add]; exact (h.cell k).trans (by rw [List.getElem?_map, hx]; rfl)⟩
def endsN (l : List Int) : Nat → List Int
  | 0 => List.replicate l.length 0
  | i + 1 => match l[i]? with
    | none => endsN l i
    | some x => (endsN l i).set x.toNat (i : Int)
theorem endsN_succ {l : List Int} {i : Nat} {x : Int} (h : l[i]? = some x) : endsN l (i + 1) = (endsN l i).set x.toNat (i : Int) := by
  show (match l[i]? with | none => _ | some x => _) = _
  rw [h]
theorem endsN_len (l : List Int) : ∀ i, (endsN l i).length = l.length
  | 0 => by simp [endsN]
  | i + 1 => by
    have := endsN_len l i
    unfold endsN
    split
    · exact this
    · rw [List.length_set]; exact this
def RetRd (l : List Int) (w : World) (e : Ending) (w' : World) : Prop := ∃ A n c, e = .returned (.slice A n c) ∧ RdI w' w'.heap.size A l ∧ l.length = n ∧ Below w.heap.size w w'
def RetRdE (l : List Int) (w : World) (e : Ending) (w' : World) : Prop := ∃ A n c, e = .returned (.tuple #[.slice A n c, .int .i64 0]) ∧ RdI w' w'.heap.size A l ∧ l.length = n ∧ Below w.heap.size w w'
set_option maxRecDepth 100000 in
set_option maxHeartbeats 1000000 in
theorem ends02 (A : Option Addr) (n c : Nat) (l : List Int) (w : World) (hr : RdI w w.heap.size A l) (hl : l.length = n) (hn : n ≤ 1000) (hv : ∀ x ∈ l, 0 ≤ x ∧ x < (n : Int)) :
    Calls Try.prog 44 #[.slice A n c] w (RetRd (endsN l n) w) := by
  have HR := Lib.hid hr
  have HL := Lib.hid hl
  have HV := Lib.hid hv
  have hmk := mkI02 n hn
  clear hr hv
  go_enter Try.func44, Try.ntmps44
  go_wp2
  go_loopw [4] (fun i wr => ∃ k : Nat, k ≤ n ∧ i = .int .i64 (k : Int) ∧ Hid (Has wr w.heap.size 3 ((endsN l k).map vInt)) ∧ Hid (Below w.heap.size w wr)) (fun i _ => n - (intOf i).toNat)
  case atStart =>
    refine ⟨0, Nat.zero_le _, rfl, ?_, ?_⟩
    · show Has _ _ _ _
      unfold endsN
      rw [HL.out]
      exact Has.new (by simp)
    · show Below _ _ _
      go_grown
  case round =>
    obtain ⟨k, hk, rfl, HH, HB⟩ := hrel
    obtain ⟨wo, rfl⟩ : ∃ wo : World, wo = wr := ⟨_, rfl⟩
    by_cases hlt : k < n
    · have jk : (k : Int) < (n : Int) := by omega
      obtain ⟨x, hx⟩ := get_of_lt (l := l) (k := k) (by rw [HL.out]; exact hlt)
      obtain ⟨v0, v1⟩ := HV.out x (mem_of_get hx)
      obtain ⟨b, o, rfl, hb, c0⟩ := (HR.out.up HB.out) k x hx
      have HE := Lib.hid (endsN_succ hx)
      have hlen := endsN_len l k
      rw [HL.out] at hlen
      have f0 := HH.out.free x.toNat
      have qh := HH.out.lt
      obtain ⟨u, hu⟩ := get_of_lt (l := (endsN l k).map vInt) (k := x.toNat) (by rw [List.length_map, hlen]; omega)
      have c1 : wo.cell? ⟨w.heap.size, x.toNat, none⟩ = some u := (HH.out.cell x.toNat).trans hu
      clear hx hu hlen
      go_wp2
      go_roundw
      case rel =>
        refine ⟨k + 1, by omega, by go_num, ?_, ?_⟩
        · show Has _ _ _ _
          rw [HE.out, List.map_set]
          exact HH.out.set x.toNat (vInt (k : Int))
        · show Below _ _ _
          exact HB.out.setCell (p := ⟨w.heap.size, x.toNat, none⟩) (Nat.le_refl _) _
      case measure => first | (simp [intOf]; done) | (simp [intOf]; omega)
    · obtain rfl : k = n := by omega
      have jk : ¬ (k : Int) < (k : Int) := by omega
      have hlen := (endsN_len l k).trans HL.out
      go_wp2
      go_ret
      exact ⟨_, _, _, rfl, hasI_rd HH.out, hlen, HB.out⟩
def exch (l : List Int) (t : Nat) : List Int := (l.set t (l.getD (t + 1) 0)).set (t + 1) (l.getD t 0)
theorem exch_len (l : List Int) (t : Nat) : (exch l t).length = l.length := by simp [exch]
/-- the line when the first i letters are done -/
def permN (n : Nat) (us : List Int) (i : Nat) : List Int := (us.take i).foldl (fun l u => exch l (u.natAbs - 1)) (lineN n)
theorem permN_succ {n : Nat} {us : List Int} {i : Nat} {u : Int} (h : us[i]? = some u) : permN n us (i + 1) = exch (permN n us i) (u.natAbs - 1) := by
  unfold permN; rw [List.take_add_one, h, List.foldl_append]; rfl
theorem foldl_exch_len (us : List Int) : ∀ l : List Int, (us.foldl (fun l u => exch l (u.natAbs - 1)) l).length = l.length := by
  induction us with
  | nil => intro l; rfl
  | cons u us ih => intro l; rw [List.foldl_cons, ih, exch_len]
theorem permN_len (n : Nat) (us : List Int) (i : Nat) : (permN n us i).length = n := by
  unfold permN; rw [foldl_exch_len, lineN_len]
theorem exch_mem {l : List Int} {t : Nat} (ht : t + 1 < l.length) : ∀ x ∈ exch l t, x ∈ l := by
  intro x hx
  unfold exch at hx
  rcases List.mem_or_eq_of_mem_set hx with hx | hx
  · rcases List.mem_or_eq_of_mem_set hx with hx | hx
    · exact hx
    · obtain ⟨y, hy⟩ := get_of_lt ht
      rw [hx, List.getD_eq_getElem?_getD, hy]; exact mem_of_get hy
  · obtain ⟨y, hy⟩ := get_of_lt (l := l) (k := t) (by omega)
    rw [hx, List.getD_eq_getElem?_getD, hy]; exact mem_of_get hy
theorem permN_mem {n : Nat} {us : List Int} (hok : WordOk n us) : ∀ i, i ≤ us.length → ∀ x ∈ permN n us i, 0 ≤ x ∧ x < (n : Int)
  | 0, _, x, hx => by
    unfold permN at hx
    simp [lineN] at hx
    obtain ⟨a, ha, rfl⟩ := hx
    omega
  | i + 1, hi, x, hx => by
    obtain ⟨u, hu⟩ := get_of_lt (l := us) (k := i) (by omega)
    rw [permN_succ hu] at hx
    obtain ⟨h1, h2, h3, h4⟩ := hok
    obtain ⟨e1, e2, e3⟩ := h4 u (mem_of_get hu)
    exact permN_mem ⟨h1, h2, h3, h4⟩ i (by omega) x (exch_mem (by rw [permN_len]; omega) x hx)
set_option maxRecDepth 100000 in
set_option maxHeartbeats 4000000 in
theorem perm02 (n : Nat) (A : Option Addr) (m c : Nat) (us : List Int) (w : World) (hr : RdI w w.heap.size A us) (hl : us.length = m) (hok : WordOk n us) :
    Calls Try.prog 19 #[.int .i64 (n : Int), .slice A m c] w (RetRdE (endsN (permN n us m) n) w) := by
  have CK := Lib.hid (check02 n A m c us w hr hl hok)
  have CL := Lib.hid (line02 n (by have := hok.2.1; omega) w)
  have HR := Lib.hid hr
  have HL := Lib.hid hl
  have HOK := Lib.hid hok
  have h12 := hok.2.1
  have h400 : m ≤ 400 := by rw [← hl]; exact hok.2.2.1
  clear hr hl hok
  go_enter Try.func19, Try.ntmps19
  go_wp2_with fail
  refine CK.out.mono ?_
  rintro e w1 ⟨rfl, rfl⟩
  go_wp2_with fail
  refine CL.out.mono ?_
  rintro e w1 ⟨A1, n1, c1, rfl, r1, l1, hb1⟩
  obtain rfl : n = n1 := by rw [← l1, lineN_len]
  have HO1 := Lib.hid r1
  have HB1 := Lib.hid hb1
  clear r1 l1 hb1 CK CL
  go_wp2
  go_loopw [8] (fun i wr => ∃ k : Nat, k ≤ m ∧ i = .int .i64 (k : Int) ∧ Hid (wr.ownsRow w.heap.size 3 1 (.slice A1 n c1) n ((permN n us k).map vInt)) ∧ Hid (Below w.heap.size w wr)) (fun i _ => m - (intOf i).toNat)
  case atStart => exact ⟨0, Nat.zero_le _, rfl, HO1, HB1⟩
  case round =>
    clear HO1 HB1
    obtain ⟨k, hk, rfl, HO, HB⟩ := hrel
    obtain ⟨wo, rfl⟩ : ∃ wo : World, wo = wr := ⟨_, rfl⟩
    by_cases hlt : k < m
    · have jk : (k : Int) < (m : Int) := by omega
      obtain ⟨u, hu⟩ := get_of_lt (l := us) (k := k) (by rw [HL.out]; exact hlt)
      obtain ⟨b, o, rfl, hb, c0⟩ := (HR.out.up HB.out) k u hu
      obtain ⟨e1, e2, e3⟩ := HOK.out.2.2.2 u (mem_of_get hu)
      have HP := Lib.hid (permN_succ (n := n) hu)
      have hlen := permN_len n us k
      obtain ⟨t, ht⟩ : ∃ t, t + 1 = u.natAbs := ⟨u.natAbs - 1, by omega⟩
      rw [show u.natAbs - 1 = t by omega] at HP
      obtain ⟨la, hla⟩ := get_of_lt (l := permN n us k) (k := t) (by omega)
      obtain ⟨lb, hlb⟩ := get_of_lt (l := permN n us k) (k := t + 1) (by omega)
      have HE : Hid (exch (permN n us k) t = ((permN n us k).set t lb).set (t + 1) la) := by
        show _ = _
        unfold exch
        rw [List.getD_eq_getElem?_getD, List.getD_eq_getElem?_getD, hla, hlb]; rfl
      obtain ⟨bl, rfl, hB, hbl, y2⟩ := own_at HO.out (j := t) (u := .int .i64 la) (by rw [List.getElem?_map, hla]; rfl)
      obtain ⟨bl', e', _, _, y3⟩ := own_at HO.out (j := t + 1) (u := .int .i64 lb) (by rw [List.getElem?_map, hlb]; rfl)
      injection e' with e'
      injection e' with e'
      subst e'
      have CZ := Lib.hid (size02 u (by omega) wo)
      rw [← ht] at CZ
      have fz := fun j => HO.out.frozenAt j
      have f0 := fz t
      have f1 := fz (t + 1)
      have j1 : IntKind.i64.wrap (((t + 1 : Nat) : Int) - 1) = (t : Int) := by rw [IntWalk.i64_in _ (by omega)]; omega
      have j2 : (t : Int) < (n : Int) := by omega
      have j3 : ((t + 1 : Nat) : Int) < (n : Int) := by omega
      clear hu hla hlb fz hlen
      go_wp2_with fail
      refine CZ.out.mono ?_
      rintro e w2 ⟨rfl, rfl⟩
      clear ht CZ
      go_wp2
      go_region
      go_wp2
      go_roundw
      case rel =>
        refine ⟨k + 1, by omega, by go_num, ?_, ?_⟩
        · show World.ownsRow _ _ _ _ _ _ _
          rw [HP.out, HE.out, List.map_set, List.map_set]
          exact ((HO.out.stored t (.int .i64 lb)).1.stored (t + 1) (.int .i64 la)).1
        · show Below _ _ _
          exact ((HB.out.setCell (p := ⟨bl, t, none⟩) hB _).setCell (p := ⟨bl, t + 1, none⟩) hB _).drew
      case measure => first | (simp [intOf]; done) | (simp [intOf]; omega)
    · obtain rfl : k = m := by omega
      have jk : ¬ (k : Int) < (k : Int) := by omega
      have CE := Lib.hid (ends02 A1 n c1 (permN n us k) wo (own_rd1 HO.out) (permN_len n us k) (by omega) (permN_mem HOK.out k (by rw [HL.out]; exact Nat.le_refl _)))
      go_wp2_with fail
      refine CE.out.mono ?_
      rintro e w2 ⟨A2, n2, c2, rfl, r2, l2, hb2⟩
      have R2 := Lib.hid r2
      have B2 := Lib.hid (bvia HB.out hb2)
      clear r2 hb2 CE HB HO
      go_wp2
      go_ret2
      exact ⟨A2, n2, c2, rfl, R2.out, l2, B2.out⟩
end Go.Proofs.Ytaenafcecfdffaa
/-
  Contract of cloth.Make: the cloth that a valid sheet makes.
-/
namespace Go.Proofs.Ytaenafcecfdffaa
open Go.RowKit
/-- an ending: a cloth in memory, and an error -/
def RetCE (t : Int) (xs ps : List Q4) (err : Int) (w : World) (e : Ending) (w' : World) : Prop := ∃ A n c B m d, e = .returned (.tuple #[vCloth t A n c B m d, .int .i64 err]) ∧ RdQ w' w'.heap.size A xs ∧ RdQ w' w'.heap.size B ps ∧ xs.length = n ∧ ps.length = m ∧ n ≤ c ∧ c ≤ 9223372036854775807 ∧ m ≤ d ∧ d ≤ 9223372036854775807 ∧ Below w.heap.size w w'
theorem qsC_len (ws : List Q4) : (qsC ws).length = ws.length * 4 := by
  induction ws with
  | nil => rfl
  | cons x ws ih => simp only [qsC, List.flatMap_cons, List.length_append] at ih ⊢; rw [ih]; simp [q4C]; omega
theorem qsC_get {ws : List Q4} {k : Nat} {x : Q4} (hx : ws[k]? = some x) : (qsC ws)[k*4]? = some (.int .i64 x.a) ∧ (qsC ws)[k*4+1]? = some (.int .i64 x.b) ∧ (qsC ws)[k*4+2]? = some (.int .i64 x.c) ∧ (qsC ws)[k*4+3]? = some (.int .i64 x.d) := by
  induction ws generalizing k with
  | nil => simp at hx
  | cons y ws ih =>
    cases k with
    | zero => simp at hx; subst hx; simp [qsC, q4C]
    | succ k =>
      have := ih (k := k) (by simpa using hx)
      have e1 : (k + 1) * 4 = k * 4 + 4 := by omega
      simp only [qsC, List.flatMap_cons] at this ⊢
      rw [e1]
      have hl : (q4C y).length = 4 := rfl
      refine ⟨?_, ?_, ?_, ?_⟩ <;> (rw [List.getElem?_append_right (by rw [hl]; omega), hl])
      · rw [show k * 4 + 4 - 4 = k * 4 by omega]; exact this.1
      · rw [show k * 4 + 4 + 1 - 4 = k * 4 + 1 by omega]; exact this.2.1
      · rw [show k * 4 + 4 + 2 - 4 = k * 4 + 2 by omega]; exact this.2.2.1
      · rw [show k * 4 + 4 + 3 - 4 = k * 4 + 3 by omega]; exact this.2.2.2
theorem own_rdQ {w : World} {base : Nat} {e : TypeId} {n c : Nat} {A : Option Addr} {ws : List Q4} (h : w.ownsRow base e 4 (.slice A n c) n (qsC ws)) : RdQ w w.heap.size A ws := fun k x hx => by
  obtain ⟨e1, e2, e3, e4⟩ := qsC_get hx
  obtain ⟨g, h1, _, h2, h3⟩ := own_at h e1
  obtain ⟨g2, h4, _, _, h5⟩ := own_at h e2
  obtain ⟨g3, h6, _, _, h7⟩ := own_at h e3
  obtain ⟨g4, h8, _, _, h9⟩ := own_at h e4
  obtain rfl : g = g2 := by rw [h1] at h4; injection h4 with h4; injection h4
  obtain rfl : g = g3 := by rw [h1] at h6; injection h6 with h6; injection h6
  obtain rfl : g = g4 := by rw [h1] at h8; injection h8 with h8; injection h8
  exact ⟨g, 0, h1, h2, by rw [Nat.zero_add]; exact h3, by rw [Nat.zero_add]; exact h5, by rw [Nat.zero_add]; exact h7, by rw [Nat.zero_add]; exact h9⟩
end Go.Proofs.Ytaenafcecfdffaa
/-
  Contract of chapter 16: the law's stand, where each pin stands at some moment, in order.
-/
namespace Go.Proofs.Ytaenafcecfdffaa
open Go.RowKit
/-- a slice of slices of ints -/
def RdM (w : World) (B : Nat) (A : Option Addr) (ms : List (List Int)) : Prop :=
  ∀ (k : Nat) (l : List Int), ms[k]? = some l → ∃ b o A' c', A = some ⟨b, o, none⟩ ∧ b < B ∧ w.cell? ⟨b, o + k, none⟩ = some (.slice A' l.length c') ∧ RdI w B A' l
theorem RdM.up {w w' : World} {A : Option Addr} {ms : List (List Int)} (h : RdM w w.heap.size A ms) (hb : Below w.heap.size w w') : RdM w' w'.heap.size A ms := fun k l hk => by
  obtain ⟨b, o, A', c', e, h1, h2, h3⟩ := h k l hk
  exact ⟨b, o, A', c', e, Nat.lt_of_lt_of_le h1 hb.size, (hb.cell (p := ⟨b, o + k, none⟩) h1).trans h2, Rd1.up h3 hb⟩
/-- pin q stands at the moment l -/
def Stands (q : Q4) (l : List Int) : Prop := ∃ t : Nat, q.b = (t : Int) ∧ t + 1 < l.length ∧ l[t]? = some q.c ∧ l[t + 1]? = some q.d
structure StandH (qs : List Q4) (ms : List (List Int)) (T : Nat) (f : Nat → Nat) : Prop where
  len : ∀ l ∈ ms, l.length = T
  at_ : ∀ (j : Nat) (q : Q4), qs[j]? = some q → ∃ l, ms[f j]? = some l ∧ Stands q l
  up : ∀ i j, i ≤ j → f i ≤ f j
set_option maxRecDepth 100000 in
set_option maxHeartbeats 4000000 in
theorem standOk (A : Option Addr) (m c : Nat) (D : Option Addr) (n d : Nat) (qs : List Q4) (ms : List (List Int)) (T : Nat) (f : Nat → Nat) (w : World) (hq : RdQ w w.heap.size A qs) (hl : qs.length = m) (hm : RdM w w.heap.size D ms) (hl2 : ms.length = n) (hn : n ≤ 100000) (hT : T ≤ 48) (hs : StandH qs ms T f) (hmm : m ≤ 100000) :
    Calls Try.prog 16 #[.slice A m c, .slice D n d] w fun e w' => e = .returned (.bool true) ∧ Below w.heap.size w w' := by
  have HQ := Lib.hid hq
  have HL := Lib.hid hl
  have HM := Lib.hid hm
  have HL2 := Lib.hid hl2
  have HS := Lib.hid hs
  clear hq hl hm hl2 hs
  go_enter Try.func16, Try.ntmps16
  go_wp2
  go_loopw [5, 6] (fun av kv wr => ∃ (k a : Nat), k ≤ m ∧ (k < m → a ≤ f k) ∧ kv = .int .i64 (k : Int) ∧ av = .int .i64 (a : Int) ∧ Hid (Below w.heap.size w wr)) (fun _ kv _ => m - (intOf kv).toNat)
  case atStart => exact ⟨0, 0, Nat.zero_le _, fun _ => Nat.zero_le _, rfl, rfl, by show Below _ _ _; exact Below.refl _ _⟩
  case round =>
    obtain ⟨k, a, hk, hka, rfl, rfl, HB⟩ := hrel
    obtain ⟨wo, rfl⟩ : ∃ wo : World, wo = wr := ⟨_, rfl⟩
    by_cases hlt : k < m
    · have jk : (k : Int) < (m : Int) := by omega
      obtain ⟨q, hqk⟩ := get_of_lt (l := qs) (k := k) (by rw [HL.out]; exact hlt)
      obtain ⟨lf, hlf, t, ht, htT, hc, hd⟩ := HS.out.at_ k q hqk
      have hTl := HS.out.len lf (mem_of_get hlf)
      rw [hTl] at htT
      have hfn : f k < n := by rw [← HL2.out]; exact lt_of_get hlf
      obtain ⟨b, o, rfl, hb, c0, c1, c2, c3⟩ := (HQ.out.up HB.out) k q hqk
      obtain ⟨l0, hl0⟩ := get_of_lt (l := ms) (k := 0) (by rw [HL2.out]; omega)
      obtain ⟨b2, o2, A0, d0, hD, hb2, e0, _⟩ := (HM.out.up HB.out) 0 l0 hl0
      rw [HS.out.len l0 (mem_of_get hl0)] at e0
      subst hD
      rw [ht] at c1
      have i1 : IntKind.i64.wrap ((t : Int) + 1) = (t : Int) + 1 := IntWalk.i64_in _ (by omega)
      have g1 : decide ((t : Int) < 0) = false := decide_eq_false (by omega)
      have g2 : decide ((T : Int) ≤ (t : Int) + 1) = false := decide_eq_false (by omega)
      have hak := hka hlt
      have HF := Lib.hid (show ∀ j, k ≤ j → f k ≤ f j from fun j hj => HS.out.up k j hj)
      have HC := Lib.hid (⟨hlf, hc, hd⟩ : ms[f k]? = some lf ∧ lf[t]? = some q.c ∧ lf[t + 1]? = some q.d)
      have n0 : 0 < n := by omega
      have n0' : (0 : Int) < (n : Int) := by omega
      clear hka hqk hlf hc hd hTl hl0 ht
      rw [Nat.add_zero] at e0
      go_wp2
      go_loopw [5] (fun av wr => ∃ (a : Nat), a ≤ f k ∧ av = .int .i64 (a : Int) ∧ Hid (Below wo.heap.size wo wr)) (fun av _ => f k - (intOf av).toNat)
      case atStart => exact ⟨a, hak, rfl, by show Below _ _ _; exact Below.refl _ _⟩
      case round =>
        clear hak
        obtain ⟨a, ha, rfl, HC2⟩ := hrel
        obtain ⟨wq, rfl⟩ : ∃ wq : World, wq = wr := ⟨_, rfl⟩
        obtain ⟨la, hla⟩ := get_of_lt (l := ms) (k := a) (by rw [HL2.out]; omega)
        obtain ⟨b3, o3, A3, d3, hD3, hb3, e3, r3⟩ := (HM.out.up (bvia HB.out HC2.out)) a la hla
        injection hD3 with hD3
        injection hD3 with hD1 hD2
        subst hD1 hD2
        have hlT := HS.out.len la (mem_of_get hla)
        rw [hlT] at e3
        obtain ⟨u, hu⟩ := get_of_lt (l := la) (k := t) (by omega)
        obtain ⟨v, hv⟩ := get_of_lt (l := la) (k := t + 1) (by omega)
        obtain ⟨b4, o4, hA4, hb4, x0⟩ := r3 t u hu
        subst hA4
        obtain ⟨b5, o5, hA5, hb5, x1⟩ := r3 (t + 1) v hv
        injection hA5 with hA5
        injection hA5 with hA1 hA2
        subst hA1 hA2
        have y2 : wq.cell? ⟨b, o + k * 4 + 2, none⟩ = some (.int .i64 q.c) := (HC2.out.cell (p := ⟨b, o + k * 4 + 2, none⟩) hb).trans c2
        have y3 : wq.cell? ⟨b, o + k * 4 + 3, none⟩ = some (.int .i64 q.d) := (HC2.out.cell (p := ⟨b, o + k * 4 + 3, none⟩) hb).trans c3
        have j1 : (a : Int) < (n : Int) := by omega
        have j2 : (t : Int) < (T : Int) := by omega
        have j3 : (t : Int) + 1 < (T : Int) := by omega
        have j4 : (0 : Int) ≤ (t : Int) + 1 := by omega
        have j5 : ((t : Int) + 1).toNat = t + 1 := by omega
        have x1' : wq.cell? ⟨b4, o4 + (t + 1), none⟩ = some (.int .i64 v) := x1
        have x0' : wq.cell? ⟨b4, o4 + t, none⟩ = some (.int .i64 u) := x0
        have HLA := Lib.hid hla
        have HU := Lib.hid hu
        have HV := Lib.hid hv
        clear hla hu hv r3 x0 x1 hlT
        by_cases hcu : u = q.c
        · by_cases hcv : v = q.d
          · have p1 : (u != q.c) = false := by simpa using hcu
            have p2 : (v != q.d) = false := by simpa using hcv
            have p3 : ((a : Int) == (n : Int)) = false := by simp; omega
            have p4 : decide ((a : Int) < (n : Int)) = true := decide_eq_true j1
            have HK2 := Lib.hid (show k + 1 < m → a ≤ f (k + 1) from fun _ => Nat.le_trans ha (HF.out (k + 1) (Nat.le_succ k)))
            clear hcu hcv
            go_wp2
            go_big_quiet (fail)
            go_wp2
            go_roundw
            case rel => exact ⟨k + 1, a, by omega, HK2.out, by go_num, rfl, by show Below _ _ _; exact below_drewN (bvia HB.out HC2.out) _⟩
            case measure => first | (simp [intOf]; done) | (simp [intOf]; omega)
          · have p1 : (u != q.c) = false := by simpa using hcu
            have p2 : (v != q.d) = true := by simpa using hcv
            have p4 : decide ((a : Int) < (n : Int)) = true := decide_eq_true j1
            have hne : a ≠ f k := fun e => by
              subst e
              have h1 := HLA.out.symm.trans HC.out.1
              injection h1 with h1
              subst h1
              have h2 := HV.out.symm.trans HC.out.2.2
              injection h2 with h2
              exact hcv h2
            clear hcu hcv
            go_wp2
            go_big_quiet (fail)
            go_wp2
            go_roundw
            case rel => exact ⟨a + 1, by omega, by go_num, below_drewN HC2.out _⟩
            case measure => first | (simp [intOf]; done) | (simp [intOf]; omega)
        · have p1 : (u != q.c) = true := by simpa using hcu
          have p4 : decide ((a : Int) < (n : Int)) = true := decide_eq_true j1
          have hne : a ≠ f k := fun e => by
            subst e
            have h1 := HLA.out.symm.trans HC.out.1
            injection h1 with h1
            subst h1
            have h2 := HU.out.symm.trans HC.out.2.1
            injection h2 with h2
            exact hcu h2
          clear hcu
          go_wp2
          go_big_quiet (fail)
          go_wp2
          go_roundw
          case rel => exact ⟨a + 1, by omega, by go_num, below_drewN HC2.out _⟩
          case measure => first | (simp [intOf]; done) | (simp [intOf]; omega)
    · obtain rfl : k = m := by omega
      have jk : ¬ (k : Int) < (k : Int) := by omega
      go_wp2
      go_ret
      exact ⟨rfl, HB.out⟩
end Go.Proofs.Ytaenafcecfdffaa
/-
  Plain law of PillowThreads: what a step's crossings and pins are.
-/
namespace Go.Proofs.Ytaenafcecfdffaa
open Go.RowKit
/-- the crossing q is of the threads that lie in its places -/
def CrAt (l : List Int) (q : Q4) : Prop := ∃ t la lb, q.b = ((t : Nat) : Int) ∧ t + 1 < l.length ∧ l[t]? = some la ∧ l[t + 1]? = some lb ∧ (q.c = la ∧ q.d = lb ∨ q.c = lb ∧ q.d = la)
def crLine (l : List Int) (q : Q4) : List Int := exch l q.b.toNat
def crOk : List Int → List Q4 → Prop
  | _, [] => True
  | l, q :: r => CrAt l q ∧ crOk (crLine l q) r
def momL : List Int → List Q4 → List (List Int)
  | l, [] => [l]
  | l, q :: r => l :: momL (crLine l q) r
theorem momL_len : ∀ (r : List Q4) (l : List Int), (momL l r).length = r.length + 1
  | [], l => rfl
  | q :: r, l => by rw [momL, List.length_cons, momL_len r, List.length_cons]
theorem momL_last : ∀ (r : List Q4) (l : List Int), (momL l r)[r.length]? = some (r.foldl crLine l)
  | [], l => rfl
  | q :: r, l => by rw [momL, List.length_cons, List.getElem?_cons_succ]; exact momL_last r (crLine l q)
theorem momL_app : ∀ (r : List Q4) (l : List Int) (q : Q4), momL l (r ++ [q]) = momL l r ++ [crLine (r.foldl crLine l) q]
  | [], l, q => rfl
  | x :: r, l, q => by rw [List.cons_append, momL, momL_app r, momL, List.cons_append]; rfl
theorem crOk_app : ∀ (r : List Q4) (l : List Int) (q : Q4), crOk l (r ++ [q]) ↔ crOk l r ∧ CrAt (r.foldl crLine l) q
  | [], l, q => by show CrAt l q ∧ True ↔ True ∧ CrAt l q; exact ⟨fun h => ⟨trivial, h.1⟩, fun h => ⟨h.2, trivial⟩⟩
  | x :: r, l, q => by
    show CrAt l x ∧ crOk (crLine l x) (r ++ [q]) ↔ (CrAt l x ∧ crOk (crLine l x) r) ∧ CrAt (r.foldl crLine (crLine l x)) q
    rw [crOk_app r]
    exact ⟨fun h => ⟨⟨h.1, h.2.1⟩, h.2.2⟩, fun h => ⟨h.1.1, h.1.2, h.2⟩⟩
theorem crLine_len (l : List Int) (q : Q4) : (crLine l q).length = l.length := exch_len _ _
theorem foldl_cr_len (r : List Q4) : ∀ l : List Int, (r.foldl crLine l).length = l.length := by
  induction r with
  | nil => intro l; rfl
  | cons q r ih => intro l; rw [List.foldl_cons, ih, crLine_len]
theorem momL_all : ∀ (r : List Q4) (l : List Int), ∀ x ∈ momL l r, x.length = l.length
  | [], l, x, hx => by rw [List.mem_singleton.1 hx]
  | q :: r, l, x, hx => by
    rcases List.mem_cons.1 hx with rfl | hx
    · rfl
    · rw [momL_all r _ x hx, crLine_len]
/-- what z1 has more than z: crossings of the threads in their places, pins that stand at some moment, in order -/
structure Grew (z z1 : Pil) (new : List Q4) (pn : List Pn) (f : Nat → Nat) : Prop where
  xs : z1.xs = z.xs ++ new
  ps : z1.ps = z.ps ++ pn
  ok : crOk z.l new
  l : z1.l = new.foldl crLine z.l
  at_ : ∀ (j : Nat) (q : Pn), pn[j]? = some q → ∃ x, (momL z.l new)[f j]? = some x ∧ Stands q.q x
  up : ∀ i j, i ≤ j → f i ≤ f j
  le : ∀ j, f j ≤ new.length
theorem Grew.refl (z z1 : Pil) (hx : z1.xs = z.xs) (hp : z1.ps = z.ps) (hl : z1.l = z.l) : Grew z z1 [] [] (fun _ => 0) :=
  ⟨by rw [hx, List.append_nil], by rw [hp, List.append_nil], trivial, hl, fun j q h => by simp at h, fun _ _ _ => Nat.le_refl _, fun _ => Nat.le_refl _⟩
theorem Grew.stick {z z1 : Pil} {new : List Q4} {pn : List Pn} {f : Nat → Nat} (h : Grew z z1 new pn f) (mid : Nat) (sew : Bool) (hm : mid + 1 < z1.l.length) : ∃ pn' f', Grew z (z1.stick mid sew) new pn' f' := by
  obtain ⟨la, hla⟩ := get_of_lt (l := z1.l) (k := mid) (by omega)
  obtain ⟨lb, hlb⟩ := get_of_lt (l := z1.l) (k := mid + 1) hm
  refine ⟨pn ++ [⟨⟨(z1.works.length : Int), (mid : Int), la, lb⟩, sew, false⟩], fun j => if j < pn.length then f j else new.length, ?_, ?_, h.ok, h.l, ?_, ?_, ?_⟩
  · exact h.xs
  · show z1.ps ++ [_] = _
    rw [h.ps, List.append_assoc, List.getD_eq_getElem?_getD, List.getD_eq_getElem?_getD, hla, hlb]; rfl
  · intro j q hj
    by_cases hlt : j < pn.length
    · rw [List.getElem?_append_left hlt] at hj
      show ∃ x, (momL z.l new)[if j < pn.length then f j else new.length]? = some x ∧ _
      rw [if_pos hlt]
      exact h.at_ j q hj
    · rw [List.getElem?_append_right (by omega)] at hj
      have hj0 : j - pn.length = 0 := by have := lt_of_get hj; simpa using this
      rw [hj0] at hj
      obtain rfl : _ = q := by simpa using hj
      show ∃ x, (momL z.l new)[if j < pn.length then f j else new.length]? = some x ∧ _
      rw [if_neg hlt, momL_last, ← h.l]
      exact ⟨_, rfl, mid, rfl, hm, hla, hlb⟩
  · intro i j hij
    show (if i < pn.length then f i else new.length) ≤ (if j < pn.length then f j else new.length)
    by_cases h1 : i < pn.length
    · by_cases h2 : j < pn.length
      · rw [if_pos h1, if_pos h2]; exact h.up i j hij
      · rw [if_pos h1, if_neg h2]; exact h.le i
    · rw [if_neg h1, if_neg (by omega)]; exact Nat.le_refl _
  · intro j
    show (if j < pn.length then f j else new.length) ≤ _
    split
    · exact h.le j
    · exact Nat.le_refl _
theorem Grew.cross {z z1 : Pil} {new : List Q4} {pn : List Pn} {f : Nat → Nat} (h : Grew z z1 new pn f) (t : Nat) (left : Bool) (ht : t + 1 < z1.l.length) : ∃ new', Grew z (z1.cross t left) new' pn f := by
  obtain ⟨la, hla⟩ := get_of_lt (l := z1.l) (k := t) (by omega)
  obtain ⟨lb, hlb⟩ := get_of_lt (l := z1.l) (k := t + 1) ht
  refine ⟨new ++ [if left then ⟨(z1.works.length : Int), (t : Int), la, lb⟩ else ⟨(z1.works.length : Int), (t : Int), lb, la⟩], ?_, h.ps, ?_, ?_, ?_, h.up, ?_⟩
  · show z1.xs ++ [_] = _
    rw [h.xs, List.append_assoc, List.getD_eq_getElem?_getD, List.getD_eq_getElem?_getD, hla, hlb]; rfl
  · rw [crOk_app]
    refine ⟨h.ok, ?_⟩
    rw [← h.l]
    cases left with
    | true => exact ⟨t, la, lb, rfl, ht, hla, hlb, .inl ⟨rfl, rfl⟩⟩
    | false => exact ⟨t, la, lb, rfl, ht, hla, hlb, .inr ⟨rfl, rfl⟩⟩
  · rw [List.foldl_append, ← h.l]
    show exch z1.l t = crLine z1.l _
    unfold crLine
    cases left <;> rfl
  · intro j q hj
    obtain ⟨x, hx, hs⟩ := h.at_ j q hj
    refine ⟨x, ?_, hs⟩
    rw [momL_app, List.getElem?_append_left (lt_of_get hx)]
    exact hx
  · intro j
    rw [List.length_append]
    exact Nat.le_trans (h.le j) (Nat.le_add_right _ _)
theorem Grew.crosses {z z1 : Pil} {new : List Q4} {pn : List Pn} {f : Nat → Nat} (h : Grew z z1 new pn f) (mid : Nat) (ns : List Int) (hn : ∀ n ∈ ns, n ≠ 0 ∧ -3 ≤ n ∧ n ≤ 3) (hm : 1 ≤ mid ∧ mid + 2 < z1.l.length) : ∀ j, ∃ new', Grew z (z1.crosses mid ns j) new' pn f
  | 0 => ⟨new, h⟩
  | j + 1 => by
    obtain ⟨new', h'⟩ := Grew.crosses h mid ns hn hm j
    cases hj : ns[j]? with
    | none =>
      have e : z1.crosses mid ns (j + 1) = z1.crosses mid ns j := by
        show (match ns[j]? with | none => _ | some n => _) = _
        rw [hj]
      rw [e]; exact ⟨new', h'⟩
    | some n =>
      rw [Pil.crosses_succ hj]
      obtain ⟨e1, e2, e3⟩ := hn n (mem_of_get hj)
      have hl := (Pil.crosses_all z1 mid ns j).2.2.2.2.2.1
      refine h'.cross _ _ ?_
      rw [hl]
      unfold mkAt
      split <;> omega
theorem Grew.letters {z z1 : Pil} {new : List Q4} {pn : List Pn} {f : Nat → Nat} (h : Grew z z1 new pn f) (mid : Nat) (bs : List UInt8) (hm : 1 ≤ mid ∧ mid + 2 < z1.l.length) : ∀ k, ∃ new' pn' f', Grew z (z1.letters mid bs k) new' pn' f'
  | 0 => ⟨new, pn, f, h⟩
  | k + 1 => by
    obtain ⟨new', pn', f', h'⟩ := Grew.letters h mid bs hm k
    have hl := (Pil.letters_all z1 mid bs k).2.2.2.2.1
    cases hk : bs[k]? with
    | none =>
      have e : z1.letters mid bs (k + 1) = z1.letters mid bs k := by
        show (match bs[k]? with | none => _ | some n => _) = _
        rw [hk]
      rw [e]; exact ⟨new', pn', f', h'⟩
    | some c =>
      rw [Pil.letters_succ hk]
      unfold Pil.letter
      split
      · obtain ⟨pn2, f2, h2⟩ := h'.stick mid false (by rw [hl]; omega)
        exact ⟨new', pn2, f2, h2⟩
      · obtain ⟨new2, h2⟩ := h'.crosses mid (crW [c] 1) (crL_mem c) (by rw [hl]; exact hm) (crW [c] 1).length
        exact ⟨new2, pn', f', h2⟩
/-- a step that may be done -/
theorem step_grew {p s : Int} {z : Pil} {x : Wk} (hE : pilE p s z x = 0) (hl : z.l.length = 2 * p.toNat) : ∃ new pn f, Grew z (z.step x) new pn f := by
  obtain ⟨hp, hs, _, _, q3, q4, _, _⟩ := pilE_zero hE
  unfold Pil.step
  split
  · exact ⟨[], [], _, Grew.refl _ _ rfl rfl rfl⟩
  · split
    · obtain ⟨pn, f, h⟩ := (Grew.refl z (z.note x) rfl rfl rfl).stick (stepMid x) true (by show stepMid x + 1 < z.l.length; unfold stepMid; omega)
      exact ⟨[], pn, f, h.xs, h.ps, h.ok, h.l, h.at_, h.up, h.le⟩
    · obtain ⟨new, pn, f, h⟩ := (Grew.refl z (z.note x) rfl rfl rfl).letters (stepMid x) x.word.data.toList (by show _ ∧ stepMid x + 2 < z.l.length; unfold stepMid; omega) x.word.data.toList.length
      exact ⟨new, pn, f, h.xs, h.ps, h.ok, h.l, h.at_, h.up, h.le⟩
end Go.Proofs.Ytaenafcecfdffaa
/-
  Plain law of PillowThreads: the word of the crossings, and the ends of a line.
-/
namespace Go.Proofs.Ytaenafcecfdffaa
open Go.RowKit
theorem ends_at (l : List Int) (hv : ∀ x ∈ l, 0 ≤ x) : ∀ k, k ≤ l.length → ∀ i : Nat, i < l.length → (∃ j, j < k ∧ l[j]? = some (i : Int)) → ∃ j, j < k ∧ (endsN l k)[i]? = some (j : Int) ∧ l[j]? = some (i : Int)
  | 0, _, i, _, ⟨j, hj, _⟩ => by omega
  | k + 1, hk, i, hi, ⟨j, hj, hl⟩ => by
    obtain ⟨x, hx⟩ := get_of_lt (l := l) (k := k) (by omega)
    have h0 := hv x (mem_of_get hx)
    rw [endsN_succ hx]
    by_cases e : x = (i : Int)
    · subst e
      refine ⟨k, Nat.lt_succ_self _, ?_, hx⟩
      rw [show ((i : Int)).toNat = i by omega, List.getElem?_set_self (by rw [endsN_len]; exact hi)]
    · have hjk : j ≠ k := fun c => by
        subst c
        rw [hx] at hl
        injection hl with hl
        exact e hl
      obtain ⟨j', h1, h2, h3⟩ := ends_at l hv k (by omega) i hi ⟨j, by omega, hl⟩
      refine ⟨j', by omega, ?_, h3⟩
      rw [List.getElem?_set_ne (by omega)]
      exact h2
/-- every number below n lies somewhere -/
def Reach (n : Nat) (l : List Int) : Prop := ∀ i : Nat, i < n → ∃ j : Nat, l[j]? = some (i : Int)
theorem reach_line (n : Nat) : Reach n (lineN n) := fun i hi => ⟨i, by simp [lineN, hi]⟩
theorem exch_get {l : List Int} {t : Nat} {la lb : Int} (ha : l[t]? = some la) (hb : l[t + 1]? = some lb) : (exch l t)[t]? = some lb ∧ (exch l t)[t + 1]? = some la ∧ ∀ j, j ≠ t → j ≠ t + 1 → (exch l t)[j]? = l[j]? := by
  have h1 := lt_of_get ha
  have h2 := lt_of_get hb
  unfold exch
  rw [List.getD_eq_getElem?_getD, List.getD_eq_getElem?_getD, ha, hb]
  refine ⟨?_, ?_, fun j hj hj' => ?_⟩
  · rw [List.getElem?_set_ne (by omega), List.getElem?_set_self h1]; rfl
  · rw [List.getElem?_set_self (by rw [List.length_set]; exact h2)]; rfl
  · rw [List.getElem?_set_ne (by omega), List.getElem?_set_ne (by omega)]
theorem reach_exch {n t : Nat} {l : List Int} (h : Reach n l) (ht : t + 1 < l.length) : Reach n (exch l t) := fun i hi => by
  obtain ⟨j, hj⟩ := h i hi
  obtain ⟨la, ha⟩ := get_of_lt (l := l) (k := t) (by omega)
  obtain ⟨lb, hb⟩ := get_of_lt ht
  obtain ⟨e1, e2, e3⟩ := exch_get ha hb
  by_cases c1 : j = t
  · subst c1
    rw [ha] at hj
    exact ⟨j + 1, by rw [e2, hj]⟩
  by_cases c2 : j = t + 1
  · subst c2
    rw [hb] at hj
    exact ⟨t, by rw [e1, hj]⟩
  · exact ⟨j, by rw [e3 j c1 c2, hj]⟩
/-- the letter of a crossing -/
def letQ (l : List Int) (q : Q4) : Int := if q.c = l.getD q.b.toNat 0 then q.b + 1 else -q.b - 1
def wordL : List Int → List Q4 → List Int
  | _, [] => []
  | l, q :: r => letQ l q :: wordL (crLine l q) r
theorem wordL_app : ∀ (r : List Q4) (l : List Int) (q : Q4), wordL l (r ++ [q]) = wordL l r ++ [letQ (r.foldl crLine l) q]
  | [], l, q => rfl
  | x :: r, l, q => by rw [List.cons_append, wordL, wordL_app r, wordL, List.cons_append]; rfl
theorem wordL_len : ∀ (r : List Q4) (l : List Int), (wordL l r).length = r.length
  | [], l => rfl
  | q :: r, l => by rw [wordL, List.length_cons, wordL_len r, List.length_cons]
theorem letQ_abs {l : List Int} {q : Q4} (h : CrAt l q) : (letQ l q).natAbs - 1 = q.b.toNat ∧ letQ l q ≠ 0 ∧ -(l.length : Int) < letQ l q ∧ letQ l q < (l.length : Int) := by
  obtain ⟨t, la, lb, hb, ht, _⟩ := h
  unfold letQ
  rw [hb]
  split <;> (refine ⟨?_, ?_, ?_, ?_⟩ <;> omega)
theorem word_fold : ∀ (r : List Q4) (l : List Int), crOk l r → (wordL l r).foldl (fun l u => exch l (u.natAbs - 1)) l = r.foldl crLine l
  | [], l, _ => rfl
  | q :: r, l, h => by
    rw [wordL, List.foldl_cons, (letQ_abs h.1).1, List.foldl_cons]
    exact word_fold r (crLine l q) h.2
theorem word_ok : ∀ (r : List Q4) (l : List Int), crOk l r → ∀ u ∈ wordL l r, u ≠ 0 ∧ -(l.length : Int) < u ∧ u < (l.length : Int)
  | [], l, _, u, hu => by cases hu
  | q :: r, l, h, u, hu => by
    rcases List.mem_cons.1 hu with rfl | hu
    · exact (letQ_abs h.1).2
    · have := word_ok r (crLine l q) h.2 u hu
      rw [crLine_len] at this
      exact this
theorem crOk_join : ∀ (a b : List Q4) (l : List Int), crOk l (a ++ b) ↔ crOk l a ∧ crOk (a.foldl crLine l) b
  | [], b, l => ⟨fun h => ⟨trivial, h⟩, fun h => h.2⟩
  | q :: a, b, l => by
    show CrAt l q ∧ crOk (crLine l q) (a ++ b) ↔ (CrAt l q ∧ crOk (crLine l q) a) ∧ crOk (a.foldl crLine (crLine l q)) b
    rw [crOk_join a b]
    exact ⟨fun h => ⟨⟨h.1, h.2.1⟩, h.2.2⟩, fun h => ⟨h.1.1, h.1.2, h.2⟩⟩
theorem crOk_get : ∀ (r : List Q4) (l : List Int), crOk l r → ∀ (j : Nat) (q : Q4), r[j]? = some q → CrAt ((r.take j).foldl crLine l) q
  | [], l, _, j, q, h => by simp at h
  | x :: r, l, h, 0, q, hq => by
    obtain rfl : x = q := by simpa using hq
    exact h.1
  | x :: r, l, h, j + 1, q, hq => crOk_get r (crLine l x) h.2 j q (by simpa using hq)
theorem reach_fold : ∀ (r : List Q4) (n : Nat) (l : List Int), crOk l r → Reach n l → Reach n (r.foldl crLine l)
  | [], n, l, _, h => h
  | q :: r, n, l, hc, h => by
    obtain ⟨t, la, lb, hb, ht, _⟩ := hc.1
    refine reach_fold r n (crLine l q) hc.2 ?_
    unfold crLine
    rw [hb]
    exact reach_exch h ht
/-- the line is the permutation of the word -/
theorem perm_ends {n : Nat} {r : List Q4} (hc : crOk (lineN n) r) {i : Nat} (hi : i < n) : ∃ j : Nat, (endsN (permN n (wordL (lineN n) r) (wordL (lineN n) r).length) n)[i]? = some (j : Int) ∧ (r.foldl crLine (lineN n))[j]? = some (i : Int) := by
  have e : permN n (wordL (lineN n) r) (wordL (lineN n) r).length = r.foldl crLine (lineN n) := by
    unfold permN
    rw [List.take_length]
    exact word_fold r (lineN n) hc
  rw [e]
  have hlen : (r.foldl crLine (lineN n)).length = n := by rw [foldl_cr_len, lineN_len]
  obtain ⟨j, hj⟩ := reach_fold r n (lineN n) hc (reach_line n) i hi
  have hv : ∀ x ∈ r.foldl crLine (lineN n), 0 ≤ x := by
    have h : ∀ (r : List Q4) (l : List Int), crOk l r → (∀ x ∈ l, 0 ≤ x) → ∀ x ∈ r.foldl crLine l, 0 ≤ x := by
      intro r
      induction r with
      | nil => intro l _ hl; exact hl
      | cons q r ih =>
        intro l hc hl
        obtain ⟨t, la, lb, hb, ht, _⟩ := hc.1
        refine ih (crLine l q) hc.2 (fun x hx => hl x ?_)
        unfold crLine at hx
        rw [hb] at hx
        exact exch_mem ht x hx
    exact h r (lineN n) hc (fun x hx => by simp [lineN] at hx; obtain ⟨a, _, rfl⟩ := hx; omega)
  obtain ⟨j', h1, h2, h3⟩ := ends_at _ hv n (by omega) i (by omega) ⟨j, by have := lt_of_get hj; omega, hj⟩
  exact ⟨j', h2, h3⟩
end Go.Proofs.Ytaenafcecfdffaa
