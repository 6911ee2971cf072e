/-
  Contract of cloth.Make at a sheet that is not valid: the error of its check, and an empty cloth.
-/
import Derived.Test.YtpljaoagiaijiaaV2
import Derived.Test.YtpljaoagiaijiaaV5
import Derived.Test.YtpljaoagiaijiaaV8
import Derived.Test.YtpljaoagiaijiaaV18
import Derived.BigQuiet
namespace Go.Proofs.Ytpljaoagiaijiaa
open Go.RowKit
set_option maxRecDepth 100000 in
set_option maxHeartbeats 1000000 in
theorem make11e (p : Int) (A : Option Addr) (n c : Nat) (ws : List Wk) (w : World) (hn : n ≤ 9223372036854775807) (hw : RdW w w.heap.size A ws) (hl : ws.length = n) (hs : ∀ x ∈ ws, x.word.size ≤ 9223372036854775807) (hE : schk p ws ≠ 0) :
    Calls Try.prog 11 #[.agg #[.int .i64 p, .slice A n c]] w (RetCE 0 [] [] (schk p ws) w) := by
  have C1 := Lib.hid (fun (W : World) (hb : Below w.heap.size w W) => shCheck p A n c ws W hn (hw.up hb) hl hs)
  clear hw hl hs
  generalize schk p ws = r at *
  have hr : (r != 0) = true := by simpa using hE
  clear hE
  go_enter Try.func11, Try.ntmps11
  go_wp2_with fail
  refine (C1.out _ (by go_grown)).mono ?_
  rintro e w1 ⟨rfl, hb1⟩
  have K2 : Has w1 (w.heap.size + 1) 30 [.int .i64 0, .slice none 0 0, .slice none 0 0] := (Has.new2 rfl).below hb1 (by simp)
  have B1 : Below w.heap.size w w1 := bvia (show Below w.heap.size w _ by go_grown) hb1
  have z0 : w1.cell? ⟨w.heap.size + 1, 0, none⟩ = some (.int .i64 0) := K2.cell 0
  have z1 : w1.cell? ⟨w.heap.size + 1, 1, none⟩ = some (.slice none 0 0) := K2.cell 1
  have z2 : w1.cell? ⟨w.heap.size + 1, 2, none⟩ = some (.slice none 0 0) := K2.cell 2
  have f0 := K2.free 0
  have f1 := K2.free 1
  have f2 := K2.free 2
  have qa := K2.lt
  clear hb1
  go_wp2
  refine post_cell_tmp (((K2.set 0 _).set 1 _).set 2 _) rfl rfl rfl rfl Try.underlying30 (by kernel_rfl) ⟨none, 0, 0, none, 0, 0, rfl, RdQ.nil _ _ _, RdQ.nil _ _ _, rfl, rfl, Nat.le_refl _, by omega, Nat.le_refl _, by omega, ?_⟩
  exact ((B1.setCell (by simp) _).setCell (by simp) _).setCell (by simp) _
end Go.Proofs.Ytpljaoagiaijiaa
/-
  Contract of chapter 17: the document's Same, of two cloths that are equal.
-/
namespace Go.Proofs.Ytpljaoagiaijiaa
open Go.RowKit
theorem eqCr (a b c d : Int) (w : World) : (Op.equalIn 10000 70 (.agg #[.int .i64 a, .int .i64 b, .int .i64 c, .int .i64 d]) (.agg #[.int .i64 a, .int .i64 b, .int .i64 c, .int .i64 d])).run Try.prog w = .ok true w := by
  have u3 := Try.underlying3
  have a3 := Try.isAgg3
  have z3 := Try.sizeOf3
  have hS : Try.prog.underlying 70 = some (.struct (Try.prog.fieldsOf 70)) := by kernel_rfl
  have hp : Try.prog.stoodInHeld 70 = false := by kernel_rfl
  rw [show (10000 : Nat) = 9999 + 1 from rfl, run_equalIn_agg w 9999 70 _ _ hS hp]
  simp only [Program.fieldsOf, Try.underlying70]
  go_simp
theorem eqPn (a b c d : Int) (w : World) : (Op.equalIn 10000 72 (.agg #[.int .i64 a, .int .i64 b, .int .i64 c, .int .i64 d]) (.agg #[.int .i64 a, .int .i64 b, .int .i64 c, .int .i64 d])).run Try.prog w = .ok true w := by
  have u3 := Try.underlying3
  have a3 := Try.isAgg3
  have z3 := Try.sizeOf3
  have hS : Try.prog.underlying 72 = some (.struct (Try.prog.fieldsOf 72)) := by kernel_rfl
  have hp : Try.prog.stoodInHeld 72 = false := by kernel_rfl
  rw [show (10000 : Nat) = 9999 + 1 from rfl, run_equalIn_agg w 9999 72 _ _ hS hp]
  simp only [Program.fieldsOf, Try.underlying72]
  go_simp
set_option maxRecDepth 100000 in
set_option maxHeartbeats 4000000 in
theorem same13 (t : Int) (A B A' B' : Option Addr) (n c m d c' d' : Nat) (xs ps : List Q4) (w : World) (hn : n ≤ 9223372036854775807) (hm : m ≤ 9223372036854775807) (hx : RdQ w w.heap.size A xs) (hx2 : RdQ w w.heap.size A' xs) (hp : RdQ w w.heap.size B ps) (hp2 : RdQ w w.heap.size B' ps)
    (hl : xs.length = n) (hl' : ps.length = m) :
    Calls Try.prog 13 #[vCloth t A n c B m d, vCloth t A' n c' B' m d'] w fun e w' => e = .returned (.bool true) ∧ Below w.heap.size w w' := by
  have B1 : Below w.heap.size w ((w.alloc (.cells #[.int .i64 t, .slice A n c, .slice B m d] 30)).alloc (.cells #[.int .i64 t, .slice A' n c', .slice B' m d'] 30)) := by go_grown
  have HX := Lib.hid (hx.up B1); have HX2 := Lib.hid (hx2.up B1); have HP := Lib.hid (hp.up B1); have HP2 := Lib.hid (hp2.up B1)
  have HL := Lib.hid hl; have HL2 := Lib.hid hl'
  have HA := Lib.hid (show Has ((w.alloc (.cells #[.int .i64 t, .slice A n c, .slice B m d] 30)).alloc (.cells #[.int .i64 t, .slice A' n c', .slice B' m d'] 30)) w.heap.size 30 [.int .i64 t, .slice A n c, .slice B m d] from (Has.new rfl).alloc _)
  have HB := Lib.hid (show Has ((w.alloc (.cells #[.int .i64 t, .slice A n c, .slice B m d] 30)).alloc (.cells #[.int .i64 t, .slice A' n c', .slice B' m d'] 30)) (w.heap.size + 1) 30 [.int .i64 t, .slice A' n c', .slice B' m d'] from Has.new2 rfl)
  clear hx hx2 hp hp2 hl hl'
  go_enter Try.func13, Try.ntmps13
  go_wp2
  obtain ⟨g', hg'⟩ : ∃ g', g' = w.heap.size + 1 := ⟨_, rfl⟩
  obtain ⟨g, hg⟩ : ∃ g, g = w.heap.size := ⟨_, rfl⟩
  generalize hW : ((w.alloc (.cells #[.int .i64 t, .slice A n c, .slice B m d] 30)).alloc (.cells #[.int .i64 t, .slice A' n c', .slice B' m d'] 30)) = w2 at *
  rw [← hg'] at HB ⊢
  rw [← hg] at HA ⊢
  clear hW hg hg'
  go_loopw [5] (fun i wr => ∃ j : Nat, j ≤ n ∧ i = .int .i64 (j : Int) ∧ Below w2.heap.size w2 wr) (fun i _ => n - (intOf i).toNat)
  case atStart => exact ⟨0, Nat.zero_le _, rfl, Below.refl _ _⟩
  case round =>
    obtain ⟨j, hj, rfl, hb⟩ := hrel
    obtain ⟨wo, rfl⟩ : ∃ wo : World, wo = wr := ⟨_, rfl⟩
    have hz := hb.size
    have a1 := (hb.cell (p := ⟨g, 1, none⟩) HA.out.lt).trans (HA.out.cell 1)
    have b1 := (hb.cell (p := ⟨g', 1, none⟩) HB.out.lt).trans (HB.out.cell 1)
    have q1 : g < wo.heap.size := Nat.lt_of_lt_of_le HA.out.lt hz
    have q2 : g' < wo.heap.size := Nat.lt_of_lt_of_le HB.out.lt hz
    replace a1 : wo.cell? ⟨g, 1, none⟩ = some (.slice A n c) := a1
    replace b1 : wo.cell? ⟨g', 1, none⟩ = some (.slice A' n c') := b1
    by_cases hlt : j < n
    · obtain ⟨x, hx⟩ := get_of_lt (l := xs) (k := j) (by rw [HL.out]; exact hlt)
      obtain ⟨bu, ou, rfl, hbu, u0, u1, u2, u3⟩ := (HX.out.up hb) _ x hx
      obtain ⟨bv, ov, rfl, hbv, v0, v1, v2, v3⟩ := (HX2.out.up hb) _ x hx
      have jn : (j : Int) < (n : Int) := by omega
      have EQ := fun W => eqCr x.a x.b x.c x.d W
      clear hx
      go_wp2
      have hxc := fun (x : Ext wo) => x.cell
      refine wp_region_ext (by kernel_rfl) (by kernel_rfl) ?_
      repeat (go_big_quiet_step (fail))
      refine wpQuiet_nil ?_
      intro w6 hw'
      have hb6 := ext_below hw'; clear hw' hxc
      have B6 := hb.trans (hb6.mono hz)
      clear hb6
      go_wp2
      go_roundw
      case rel => exact ⟨j + 1, by omega, by go_num, B6⟩
      case measure => first | (simp [intOf]; done) | (simp [intOf]; omega)
    · obtain rfl : n = j := by omega
      go_wp2
      replace HA := Lib.hid (HA.out.below hb HA.out.lt)
      replace HB := Lib.hid (HB.out.below hb HB.out.lt)
      replace HP := Lib.hid (HP.out.up hb)
      replace HP2 := Lib.hid (HP2.out.up hb)
      have B3 := bvia B1 hb
      clear hb HX HX2 B1 a1 b1 q1 q2 hz
      obtain ⟨w3, rfl⟩ : ∃ w3 : World, w3 = wo := ⟨_, rfl⟩
      go_loopw [6] (fun i wr => ∃ j : Nat, j ≤ m ∧ i = .int .i64 (j : Int) ∧ Below w3.heap.size w3 wr) (fun i _ => m - (intOf i).toNat)
      case atStart => exact ⟨0, Nat.zero_le _, rfl, Below.refl _ _⟩
      case round =>
        obtain ⟨j, hj, rfl, hb⟩ := hrel
        obtain ⟨wo, rfl⟩ : ∃ wo : World, wo = wr := ⟨_, rfl⟩
        have hz := hb.size
        have a1 := (hb.cell (p := ⟨g, 2, none⟩) HA.out.lt).trans (HA.out.cell 2)
        have b1 := (hb.cell (p := ⟨g', 2, none⟩) HB.out.lt).trans (HB.out.cell 2)
        have q1 : g < wo.heap.size := Nat.lt_of_lt_of_le HA.out.lt hz
        have q2 : g' < wo.heap.size := Nat.lt_of_lt_of_le HB.out.lt hz
        replace a1 : wo.cell? ⟨g, 2, none⟩ = some (.slice B m d) := a1
        replace b1 : wo.cell? ⟨g', 2, none⟩ = some (.slice B' m d') := b1
        by_cases hlt : j < m
        · obtain ⟨x, hx⟩ := get_of_lt (l := ps) (k := j) (by rw [HL2.out]; exact hlt)
          obtain ⟨bu, ou, rfl, hbu, u0, u1, u2, u3⟩ := (HP.out.up hb) _ x hx
          obtain ⟨bv, ov, rfl, hbv, v0, v1, v2, v3⟩ := (HP2.out.up hb) _ x hx
          have jn : (j : Int) < (m : Int) := by omega
          have EQ := fun W => eqPn x.a x.b x.c x.d W
          clear hx
          go_wp2
          have hxc := fun (x : Ext wo) => x.cell
          refine wp_region_ext (by kernel_rfl) (by kernel_rfl) ?_
          repeat (go_big_quiet_step (fail))
          refine wpQuiet_nil ?_
          intro w6 hw'
          have hb6 := ext_below hw'; clear hw' hxc
          have B6 := hb.trans (hb6.mono hz)
          clear hb6
          go_wp2
          go_roundw
          case rel => exact ⟨j + 1, by omega, by go_num, B6⟩
          case measure => first | (simp [intOf]; done) | (simp [intOf]; omega)
        · obtain rfl : m = j := by omega
          go_wp2
          go_ret
          exact ⟨rfl, bvia B3 hb⟩
end Go.Proofs.Ytpljaoagiaijiaa
/-
  Contracts of chapter 17: Gates of both packages.
-/
namespace Go.Proofs.Ytpljaoagiaijiaa
open Go.RowKit
/-- a gate: its work, its side -/
structure Gt where
  w : Int
  s : Int
deriving DecidableEq
def gtCells (x : Gt) : List Value := [.int .i64 x.w, .int .i64 x.s]
def gtsCells (ws : List Gt) : List Value := ws.flatMap gtCells
theorem gtsCells_app (ws : List Gt) (x : Gt) : gtsCells (ws ++ [x]) = gtsCells ws ++ gtCells x := by simp [gtsCells]
theorem infoGt : (Try.prog.info? 62).map (fun i => (i.zero, i.size, i.bytes)) = some (some (.agg #[.int .i64 0, .int .i64 0]), 2, 16) := by kernel_rfl
theorem news_gt (w : World) (x : Gt) (t : TypeId) : ∀ j u, (gtCells x)[j]? = some u → (w.alloc (.cells #[.int .i64 x.w, .int .i64 x.s] t)).cell? ⟨w.heap.size, j, none⟩ = some u := fun j u hu => by
  match j, hu with
  | 0, hu => simp [gtCells] at hu; subst hu; go_simp
  | 1, hu => simp [gtCells] at hu; subst hu; go_simp
  | j + 2, hu => simp [gtCells] at hu
theorem one_gt (x : Gt) : ∀ u ∈ gtCells x, u.oneCell' = true := fun u hu => by
  simp only [gtCells, List.mem_cons, List.not_mem_nil, or_false] at hu
  rcases hu with rfl | rfl <;> rfl
/-- the gates of a thread at the first k pins -/
def gatesTo (ps : List Q4) (th : Int) : Nat → List Gt
  | 0 => []
  | k + 1 => match ps[k]? with
    | some x => if x.c = th then gatesTo ps th k ++ [(⟨x.a, 0⟩ : Gt)] else if x.d = th then gatesTo ps th k ++ [(⟨x.a, 1⟩ : Gt)] else gatesTo ps th k
    | none => gatesTo ps th k
def gatesR (t : Int) (xs ps : List Q4) (th : Int) : List Gt := if askE t xs ps [th] = 0 then gatesTo ps th ps.length else []
theorem gates_l {ps : List Q4} {th : Int} {k : Nat} {x : Q4} (h : ps[k]? = some x) (h1 : x.c = th) : gatesTo ps th (k + 1) = gatesTo ps th k ++ [⟨x.a, 0⟩] := by
  show (match ps[k]? with | some x => if x.c = th then gatesTo ps th k ++ [(⟨x.a, 0⟩ : Gt)] else if x.d = th then gatesTo ps th k ++ [(⟨x.a, 1⟩ : Gt)] else gatesTo ps th k | none => gatesTo ps th k) = _
  rw [h]; simp only [h1, if_true]
theorem gates_r {ps : List Q4} {th : Int} {k : Nat} {x : Q4} (h : ps[k]? = some x) (h1 : ¬ x.c = th) (h2 : x.d = th) : gatesTo ps th (k + 1) = gatesTo ps th k ++ [⟨x.a, 1⟩] := by
  show (match ps[k]? with | some x => if x.c = th then gatesTo ps th k ++ [(⟨x.a, 0⟩ : Gt)] else if x.d = th then gatesTo ps th k ++ [(⟨x.a, 1⟩ : Gt)] else gatesTo ps th k | none => gatesTo ps th k) = _
  rw [h]; simp only [if_neg h1, if_pos h2]
theorem gates_n {ps : List Q4} {th : Int} {k : Nat} {x : Q4} (h : ps[k]? = some x) (h1 : ¬ x.c = th) (h2 : ¬ x.d = th) : gatesTo ps th (k + 1) = gatesTo ps th k := by
  show (match ps[k]? with | some x => if x.c = th then gatesTo ps th k ++ [(⟨x.a, 0⟩ : Gt)] else if x.d = th then gatesTo ps th k ++ [(⟨x.a, 1⟩ : Gt)] else gatesTo ps th k | none => gatesTo ps th k) = _
  rw [h]; simp only [if_neg h1, if_neg h2]
/-- an ending: a row of gates, and an error -/
def RetGE (xs : List Gt) (err : Int) (w : World) (e : Ending) (w' : World) : Prop := ∃ A n c, e = .returned (.tuple #[.slice A n c, .int .i64 err]) ∧ w'.ownsRow w.heap.size 62 2 (.slice A n c) n (gtsCells xs) ∧ xs.length = n ∧ Below w.heap.size w w'
theorem okP_ne {t : Int} {x : Q4} (h : okP t x = true) : x.c ≠ x.d := by
  unfold okP at h
  simp at h
  intro e
  simp_all
theorem own_base {w : World} {base base' : Nat} {e : TypeId} {size n : Nat} {v : Value} {xs : List Value} (h : w.ownsRow base e size v n xs) (hb : base' ≤ base) : w.ownsRow base' e size v n xs :=
  ⟨h.1, h.2.imp id (fun ⟨g, cap, cur, h1, h2, h3⟩ => ⟨g, cap, cur, h1, Nat.le_trans hb h2, h3⟩)⟩
set_option maxRecDepth 100000 in
set_option maxHeartbeats 4000000 in
theorem gates26 (t : Int) (A B : Option Addr) (n c m d : Nat) (th : Int) (xs ps : List Q4) (w : World) (hn : n ≤ 9223372036854775807) (hm : m ≤ 9223372036854775807) (hx : RdQ w w.heap.size A xs) (hp : RdQ w w.heap.size B ps)
    (hl : xs.length = n) (hl' : ps.length = m) (ht0 : -9223372036854775808 ≤ t) :
    Calls Try.prog 26 #[vCloth t A n c B m d, .int .i64 th] w (RetGE (gatesR t xs ps th) (askE t xs ps [th]) w) := by
  have HP := Lib.hid hp
  have g1 : Below w.heap.size w (w.alloc (.cells #[.int .i64 t, .slice A n c, .slice B m d] 30)) := by go_grown
  have g2 : Below (w.alloc (.cells #[.int .i64 t, .slice A n c, .slice B m d] 30)).heap.size (w.alloc (.cells #[.int .i64 t, .slice A n c, .slice B m d] 30)) ((w.alloc (.cells #[.int .i64 t, .slice A n c, .slice B m d] 30)).alloc (.cells (([th] : List Int).map vInt).toArray 3)) := by go_grown
  have g0 := bvia g1 g2
  have D := rdI_lits (w.alloc (.cells #[.int .i64 t, .slice A n c, .slice B m d] 30)) [th]
  have e2 : (w.alloc (.cells #[.int .i64 t, .slice A n c, .slice B m d] 30)).heap.size = w.heap.size + 1 := by simp
  have C1 := Lib.hid (asked50 t A B (some ⟨(w.alloc (.cells #[.int .i64 t, .slice A n c, .slice B m d] 30)).heap.size, 0, none⟩) n c m d 1 1 xs ps [th] _ hn hm (by omega) (by omega) (hx.up g0) (hp.up g0) D hl hl' rfl ht0)
  rw [e2] at C1
  have K0 : Has (w.alloc (.cells #[.int .i64 t, .slice A n c, .slice B m d] 30)) w.heap.size 30 [.int .i64 t, .slice A n c, .slice B m d] := Has.new rfl
  have K1 := Lib.hid (K0.alloc (.cells (([th] : List Int).map vInt).toArray 3))
  clear hx hp D e2 g1 g2 K0
  by_cases hE : askE t xs ps [th] = 0
  · have hck : ckE t xs ps = 0 := by
      refine Classical.byContradiction fun h => ?_
      unfold askE at hE
      rw [if_neg h] at hE
      exact h hE
    have hm2 : m ≤ 6400 := by have := (ckE_ok hck).2.2.2.1; rw [hl'] at this; exact this
    have HNE : Hid (∀ x ∈ ps, x.c ≠ x.d) := fun x h => okP_ne ((ckE_ok hck).2.2.2.2.2.1 x h)
    have hR : gatesR t xs ps th = gatesTo ps th m := by unfold gatesR; rw [if_pos hE, hl']
    rw [hR, hE]
    rw [hE] at C1
    have HL := Lib.hid hl'
    clear hR hE hck hl hl'
    go_enter Try.func26, Try.ntmps26
    go_wp2_with fail
    refine C1.out.mono ?_
    rintro e' w1 ⟨rfl, hb1⟩
    have BK := bvia g0 hb1
    have HC := Lib.hid (K1.out.below hb1 K1.out.lt)
    have HCK := HC
    have HP1 := Lib.hid (HP.out.up BK)
    clear hb1 C1 K1 g0 HP
    have a0 : w1.cell? ⟨w.heap.size, 0, none⟩ = some (.int .i64 t) := HC.out.cell 0
    have a1 : w1.cell? ⟨w.heap.size, 1, none⟩ = some (.slice A n c) := HC.out.cell 1
    have a2 : w1.cell? ⟨w.heap.size, 2, none⟩ = some (.slice B m d) := HC.out.cell 2
    have q := HC.out.lt
    go_wp2
    go_loopw [7, 20] (fun v i wr => ∃ (j l : Nat) (A' : Option Addr) (c' : Nat), j ≤ m ∧ l ≤ j ∧ i = .int .i64 (j : Int) ∧ v = .slice A' l c' ∧ Hid ((gatesTo ps th j).length = l) ∧ Hid (wr.ownsRow w1.heap.size 62 2 v l (gtsCells (gatesTo ps th j))) ∧ Hid (Has wr w.heap.size 30 [.int .i64 t, .slice A n c, .slice B m d]) ∧ Below w1.heap.size w1 wr) (fun _ i _ => m - (intOf i).toNat)
    case atStart => exact ⟨0, 0, none, 0, Nat.zero_le _, Nat.le_refl _, rfl, rfl, Lib.hid rfl, Lib.hid (World.ownsRow_nil _ _ _ _), HC, Below.refl _ _⟩
    case round =>
      clear HC a0 a1 a2 q
      obtain ⟨j, l, A', c', hj, hlj, rfl, rfl, HLL, HO, HC, hb⟩ := hrel
      obtain ⟨wo, rfl⟩ : ∃ wo : World, wo = wr := ⟨_, rfl⟩
      have hz := hb.size
      have a2 : wo.cell? ⟨w.heap.size, 2, none⟩ = some (.slice B m d) := HC.out.cell 2
      have q := HC.out.lt
      by_cases hlt : j < m
      · obtain ⟨x, hx⟩ := get_of_lt (l := ps) (k := j) (by rw [HL.out]; exact hlt)
        have hne := HNE.out x (mem_of_get hx)
        obtain ⟨ba, o, rfl, hba, c0, c1, c2, c3⟩ := (HP1.out.up hb) _ x hx
        have HXk := Lib.hid hx; clear hx
        have jn : (j : Int) < (m : Int) := by omega
        obtain ⟨w5, hw5⟩ : ∃ w5, w5 = wo.alloc (.cells #[.int .i64 x.a, .int .i64 x.b, .int .i64 x.c, .int .i64 x.d] 72) := ⟨_, rfl⟩
        have hb5 : Below wo.heap.size wo w5 := by rw [hw5]; go_grown
        have HO5 := Lib.hid (own_below HO.out hb5)
        have B5 := hb.trans (hb5.mono hz)
        have hz5 := B5.size
        have HC5 := Lib.hid (HC.out.below hb5 q)
        have K5 : Has w5 wo.heap.size 72 [.int .i64 x.a, .int .i64 x.b, .int .i64 x.c, .int .i64 x.d] := by rw [hw5]; exact Has.new rfl
        go_upto_region 8 with (fail)
        rw [← hw5]
        obtain ⟨gx, hgx⟩ : ∃ gx, gx = wo.heap.size := ⟨_, rfl⟩
        rw [← hgx] at K5 ⊢
        have k0 : w5.cell? ⟨gx, 0, none⟩ = some (.int .i64 x.a) := K5.cell 0
        have k2 : w5.cell? ⟨gx, 2, none⟩ = some (.int .i64 x.c) := K5.cell 2
        have k3 : w5.cell? ⟨gx, 3, none⟩ = some (.int .i64 x.d) := K5.cell 3
        have qx := K5.lt
        clear hb5 hw5 K5 hgx HO HC a2 q c0 c1 c2 c3
        by_cases h1 : x.c = th
        · have d1 : (th == x.c) = true := by simpa using h1.symm
          have HS := Lib.hid (gates_l HXk.out h1)
          clear h1 hne
          go_wp2_with (at_builtin; refine wpList_app rfl (.tmp 29) (.tmp 33) _ rfl w1.heap.size 62 (.agg #[.int .i64 0, .int .i64 0]) 2 16 Try.underlying58 infoGt rfl (by omega) (by omega) _ _ _ rfl (HO5.out.alloc _) w5.heap.size (gtCells ⟨x.a, 0⟩) rfl rfl (news_gt _ ⟨x.a, 0⟩ _) (one_gt _) (by omega) (by simp; omega) ?_)
          intro ga cap1 w7 hg1 hown1 hgrow1 hor1
          have hown2 : w7.ownsRow w1.heap.size 62 2 (.slice (some ⟨ga, 0, none⟩) (l + 1) cap1) (l + 1) (gtsCells (gatesTo ps th (j + 1))) := by rw [HS.out, gtsCells_app]; exact hown1
          have hb7 := (B5.alloc hz5 _).grown hgrow1 (by simp; omega) (fun kk hk => (HO5.out.lt kk hk).1)
          have HW7 := Lib.hid hown2
          have HB7 := Lib.hid hb7
          have HC7 := Lib.hid (HCK.out.below hb7 HCK.out.lt)
          clear hb7 hown1 hown2 hgrow1
          go_wp2
          go_roundw
          case rel => exact ⟨j + 1, l + 1, some ⟨ga, 0, none⟩, cap1, by omega, by omega, by go_num, rfl, Lib.hid (by rw [HS.out, List.length_append, HLL.out]; rfl), HW7, HC7, HB7.out⟩
          case measure => first | (simp [intOf]; done) | (simp [intOf]; omega)
        · have d1 : (th == x.c) = false := by simpa using (fun h : th = x.c => h1 h.symm)
          by_cases h2 : x.d = th
          · have d2 : (th == x.d) = true := by simpa using h2.symm
            have HS := Lib.hid (gates_r HXk.out h1 h2)
            clear h1 h2 hne
            go_wp2_with (at_builtin; refine wpList_app rfl (.tmp 39) (.tmp 43) _ rfl w1.heap.size 62 (.agg #[.int .i64 0, .int .i64 0]) 2 16 Try.underlying58 infoGt rfl (by omega) (by omega) _ _ _ rfl (HO5.out.alloc _) w5.heap.size (gtCells ⟨x.a, 1⟩) rfl rfl (news_gt _ ⟨x.a, 1⟩ _) (one_gt _) (by omega) (by simp; omega) ?_)
            intro ga cap1 w7 hg1 hown1 hgrow1 hor1
            have hown2 : w7.ownsRow w1.heap.size 62 2 (.slice (some ⟨ga, 0, none⟩) (l + 1) cap1) (l + 1) (gtsCells (gatesTo ps th (j + 1))) := by rw [HS.out, gtsCells_app]; exact hown1
            have hb7 := (B5.alloc hz5 _).grown hgrow1 (by simp; omega) (fun kk hk => (HO5.out.lt kk hk).1)
            have HW7 := Lib.hid hown2
            have HB7 := Lib.hid hb7
            have HC7 := Lib.hid (HCK.out.below hb7 HCK.out.lt)
            clear hb7 hown1 hown2 hgrow1
            go_wp2
            go_roundw
            case rel => exact ⟨j + 1, l + 1, some ⟨ga, 0, none⟩, cap1, by omega, by omega, by go_num, rfl, Lib.hid (by rw [HS.out, List.length_append, HLL.out]; rfl), HW7, HC7, HB7.out⟩
            case measure => first | (simp [intOf]; done) | (simp [intOf]; omega)
          · have d2 : (th == x.d) = false := by simpa using (fun h : th = x.d => h2 h.symm)
            have HS := Lib.hid (gates_n HXk.out h1 h2)
            clear h1 h2 hne
            go_wp2
            go_roundw
            case rel => exact ⟨j + 1, l, A', c', by omega, by omega, by go_num, rfl, Lib.hid (by rw [HS.out, HLL.out]), Lib.hid (by rw [HS.out]; exact HO5.out), HC5, B5⟩
            case measure => first | (simp [intOf]; done) | (simp [intOf]; omega)
      · obtain rfl : m = j := by omega
        go_wp2
        go_ret2
        exact ⟨A', l, c', rfl, own_base HO.out BK.size, HLL.out, bvia BK hb⟩
  · have hR : gatesR t xs ps th = [] := by unfold gatesR; rw [if_neg hE]
    rw [hR]
    generalize askE t xs ps [th] = r at *
    have hr : (r != 0) = true := by simpa using hE
    clear hE hR
    go_enter Try.func26, Try.ntmps26
    go_wp2_with fail
    refine C1.out.mono ?_
    rintro e' w1 ⟨rfl, hb1⟩
    have BK := bvia g0 hb1
    clear hb1 C1 K1 g0
    go_wp2
    go_ret2
    exact ⟨none, 0, 0, rfl, World.ownsRow_nil _ _ _ _, rfl, BK⟩
set_option maxRecDepth 100000 in
set_option maxHeartbeats 4000000 in
theorem gates27 (t : Int) (A B : Option Addr) (n c m d : Nat) (th : Int) (xs ps : List Q4) (w : World) (hn : n ≤ 9223372036854775807) (hm : m ≤ 9223372036854775807) (hx : RdQ w w.heap.size A xs) (hp : RdQ w w.heap.size B ps)
    (hl : xs.length = n) (hl' : ps.length = m) (ht0 : -9223372036854775808 ≤ t) :
    Calls Try.prog 27 #[vCloth t A n c B m d, .int .i64 th] w (RetGE (gatesR t xs ps th) (askE t xs ps [th]) w) := by
  have HP := Lib.hid hp
  have C1 := Lib.hid (fun (W : World) (hb : Below w.heap.size w W) => check17 t A B n c m d xs ps W hn hm (hx.up hb) (hp.up hb) hl hl' ht0)
  clear hx hp
  have K0 : Has (w.alloc (.cells #[.int .i64 t, .slice A n c, .slice B m d] 30)) w.heap.size 30 [.int .i64 t, .slice A n c, .slice B m d] := Has.new rfl
  by_cases hE : ckE t xs ps = 0
  · cases hi : inT t th with
    | false =>
      have Ith := Lib.hid hi
      have e1 : askE t xs ps [th] = 2 := by rw [ask_one, if_pos hE, if_neg (by simp [hi])]
      have e2 : gatesR t xs ps th = [] := by unfold gatesR; rw [e1]; rfl
      rw [e1, e2]
      rw [hE] at C1
      clear e1 e2 hE hi
      go_enter Try.func27, Try.ntmps27
      go_wp2_with fail
      refine (C1.out _ (by go_grown)).mono ?_
      rintro e w1 ⟨rfl, hb1⟩
      have B1 := bvia (show Below w.heap.size w _ by go_grown) hb1
      have HC := Lib.hid (K0.below hb1 K0.lt)
      clear K0 hb1 C1
      have a0 : w1.cell? ⟨w.heap.size, 0, none⟩ = some (.int .i64 t) := HC.out.cell 0
      have a1 : w1.cell? ⟨w.heap.size, 1, none⟩ = some (.slice A n c) := HC.out.cell 1
      have a2 : w1.cell? ⟨w.heap.size, 2, none⟩ = some (.slice B m d) := HC.out.cell 2
      have q := HC.out.lt
      go_wp2_with fail
      refine (has49 t A B n c m d th false _ Ith.out).mono ?_
      rintro e w2 ⟨rfl, hb2⟩
      have B2 := bvia B1 hb2
      replace HC := Lib.hid (HC.out.below hb2 HC.out.lt)
      clear a0 a1 a2 q hb2
      have a0 : w2.cell? ⟨w.heap.size, 0, none⟩ = some (.int .i64 t) := HC.out.cell 0
      have a1 : w2.cell? ⟨w.heap.size, 1, none⟩ = some (.slice A n c) := HC.out.cell 1
      have a2 : w2.cell? ⟨w.heap.size, 2, none⟩ = some (.slice B m d) := HC.out.cell 2
      have q := HC.out.lt
      go_wp2
      go_ret2
      exact ⟨none, 0, 0, rfl, World.ownsRow_nil _ _ _ _, rfl, B2⟩
    | true =>
      have Ith := Lib.hid hi
      have e1 : askE t xs ps [th] = 0 := by rw [ask_one, if_pos hE, if_pos hi]
      have e2 : gatesR t xs ps th = gatesTo ps th m := by unfold gatesR; rw [if_pos e1, hl']
      have hm2 : m ≤ 6400 := by have := (ckE_ok hE).2.2.2.1; rw [hl'] at this; exact this
      have HNE : Hid (∀ x ∈ ps, x.c ≠ x.d) := fun x h => okP_ne ((ckE_ok hE).2.2.2.2.2.1 x h)
      rw [e1, e2]
      rw [hE] at C1
      have HL := Lib.hid hl'
      clear e1 e2 hE hl hl' hi
      go_enter Try.func27, Try.ntmps27
      go_wp2_with fail
      refine (C1.out _ (by go_grown)).mono ?_
      rintro e w1 ⟨rfl, hb1⟩
      have B1 := bvia (show Below w.heap.size w _ by go_grown) hb1
      have HC := Lib.hid (K0.below hb1 K0.lt)
      clear K0 hb1 C1
      have a0 : w1.cell? ⟨w.heap.size, 0, none⟩ = some (.int .i64 t) := HC.out.cell 0
      have a1 : w1.cell? ⟨w.heap.size, 1, none⟩ = some (.slice A n c) := HC.out.cell 1
      have a2 : w1.cell? ⟨w.heap.size, 2, none⟩ = some (.slice B m d) := HC.out.cell 2
      have q := HC.out.lt
      go_wp2_with fail
      refine (has49 t A B n c m d th true _ Ith.out).mono ?_
      rintro e w2 ⟨rfl, hb2⟩
      have B2 := bvia B1 hb2
      replace HC := Lib.hid (HC.out.below hb2 HC.out.lt)
      clear a0 a1 a2 q hb2
      have a0 : w2.cell? ⟨w.heap.size, 0, none⟩ = some (.int .i64 t) := HC.out.cell 0
      have a1 : w2.cell? ⟨w.heap.size, 1, none⟩ = some (.slice A n c) := HC.out.cell 1
      have a2 : w2.cell? ⟨w.heap.size, 2, none⟩ = some (.slice B m d) := HC.out.cell 2
      have q := HC.out.lt
      have BK := B2
      have HCK := HC
      have HP1 := Lib.hid (HP.out.up B2)
      clear HP
      go_wp2
      go_loopw [7, 8] (fun v i wr => ∃ (j l : Nat) (A' : Option Addr) (c' : Nat), j ≤ m ∧ l ≤ j ∧ i = .int .i64 (j : Int) ∧ v = .slice A' l c' ∧ Hid ((gatesTo ps th j).length = l) ∧ Hid (wr.ownsRow w2.heap.size 62 2 v l (gtsCells (gatesTo ps th j))) ∧ Hid (Has wr w.heap.size 30 [.int .i64 t, .slice A n c, .slice B m d]) ∧ Below w2.heap.size w2 wr) (fun _ i _ => m - (intOf i).toNat)
      case atStart => exact ⟨0, 0, none, 0, Nat.zero_le _, Nat.le_refl _, rfl, rfl, Lib.hid rfl, Lib.hid (World.ownsRow_nil _ _ _ _), HC, Below.refl _ _⟩
      case round =>
        clear HC a0 a1 a2 q
        obtain ⟨j, l, A', c', hj, hlj, rfl, rfl, HLL, HO, HC, hb⟩ := hrel
        obtain ⟨wo, rfl⟩ : ∃ wo : World, wo = wr := ⟨_, rfl⟩
        have hz := hb.size
        have a2 : wo.cell? ⟨w.heap.size, 2, none⟩ = some (.slice B m d) := HC.out.cell 2
        have q := HC.out.lt
        by_cases hlt : j < m
        · obtain ⟨x, hx⟩ := get_of_lt (l := ps) (k := j) (by rw [HL.out]; exact hlt)
          have hne := HNE.out x (mem_of_get hx)
          obtain ⟨ba, o, rfl, hba, c0, c1, c2, c3⟩ := (HP1.out.up hb) _ x hx
          have HXk := Lib.hid hx; clear hx
          have jn : (j : Int) < (m : Int) := by omega
          by_cases h1 : x.c = th
          · have d1 : (x.c == th) = true := by simpa using h1
            have d2 : (x.d == th) = false := by simpa using (fun h : x.d = th => hne (h1.trans h.symm))
            have HS := Lib.hid (gates_l HXk.out h1)
            clear h1 hne
            go_wp2_with (at_builtin; refine wpList_app rfl (.tmp 37) (.tmp 45) _ rfl w2.heap.size 62 (.agg #[.int .i64 0, .int .i64 0]) 2 16 Try.underlying58 infoGt rfl (by omega) (by omega) _ _ _ rfl (HO.out.alloc _) wo.heap.size (gtCells ⟨x.a, 0⟩) rfl rfl (news_gt _ ⟨x.a, 0⟩ _) (one_gt _) (by omega) (by simp; omega) ?_)
            intro ga cap1 w7 hg1 hown1 hgrow1 hor1
            have hown2 : w7.ownsRow w2.heap.size 62 2 (.slice (some ⟨ga, 0, none⟩) (l + 1) cap1) (l + 1) (gtsCells (gatesTo ps th (j + 1))) := by rw [HS.out, gtsCells_app]; exact hown1
            have hb7 := (hb.alloc hz _).grown hgrow1 (by simp; omega) (fun kk hk => (HO.out.lt kk hk).1)
            have HW7 := Lib.hid hown2
            have HB7 := Lib.hid hb7
            have HC7 := Lib.hid (HCK.out.below hb7 HCK.out.lt)
            have s2 : w7.cell? ⟨w.heap.size, 2, none⟩ = some (.slice (some ⟨ba, o, none⟩) m d) := HC7.out.cell 2
            have sq := HC7.out.lt
            have s3 : w7.cell? ⟨ba, o + j * 4 + 3, none⟩ = some (.int .i64 x.d) := by
              obtain ⟨b9, o9, e9, _, _, _, _, y3⟩ := (HP1.out.up hb7) _ x HXk.out
              injection e9 with e9; injection e9 with e10 e11
              subst e10 e11
              exact y3
            clear hb7 hown1 hown2 hgrow1
            go_wp2
            go_roundw
            case rel => exact ⟨j + 1, l + 1, some ⟨ga, 0, none⟩, cap1, by omega, by omega, by go_num, rfl, Lib.hid (by rw [HS.out, List.length_append, HLL.out]; rfl), HW7, HC7, HB7.out⟩
            case measure => first | (simp [intOf]; done) | (simp [intOf]; omega)
          · have d1 : (x.c == th) = false := by simpa using h1
            by_cases h2 : x.d = th
            · have d2 : (x.d == th) = true := by simpa using h2
              have HS := Lib.hid (gates_r HXk.out h1 h2)
              clear h1 h2 hne
              go_wp2_with (at_builtin; refine wpList_app rfl (.tmp 55) (.tmp 63) _ rfl w2.heap.size 62 (.agg #[.int .i64 0, .int .i64 0]) 2 16 Try.underlying58 infoGt rfl (by omega) (by omega) _ _ _ rfl (HO.out.alloc _) wo.heap.size (gtCells ⟨x.a, 1⟩) rfl rfl (news_gt _ ⟨x.a, 1⟩ _) (one_gt _) (by omega) (by simp; omega) ?_)
              intro ga cap1 w7 hg1 hown1 hgrow1 hor1
              have hown2 : w7.ownsRow w2.heap.size 62 2 (.slice (some ⟨ga, 0, none⟩) (l + 1) cap1) (l + 1) (gtsCells (gatesTo ps th (j + 1))) := by rw [HS.out, gtsCells_app]; exact hown1
              have hb7 := (hb.alloc hz _).grown hgrow1 (by simp; omega) (fun kk hk => (HO.out.lt kk hk).1)
              have HW7 := Lib.hid hown2
              have HB7 := Lib.hid hb7
              have HC7 := Lib.hid (HCK.out.below hb7 HCK.out.lt)
              clear hb7 hown1 hown2 hgrow1
              go_wp2
              go_roundw
              case rel => exact ⟨j + 1, l + 1, some ⟨ga, 0, none⟩, cap1, by omega, by omega, by go_num, rfl, Lib.hid (by rw [HS.out, List.length_append, HLL.out]; rfl), HW7, HC7, HB7.out⟩
              case measure => first | (simp [intOf]; done) | (simp [intOf]; omega)
            · have d2 : (x.d == th) = false := by simpa using h2
              have HS := Lib.hid (gates_n HXk.out h1 h2)
              clear h1 h2 hne
              go_wp2
              go_roundw
              case rel => exact ⟨j + 1, l, A', c', by omega, by omega, by go_num, rfl, Lib.hid (by rw [HS.out, HLL.out]), Lib.hid (by rw [HS.out]; exact HO.out), HC, hb⟩
              case measure => first | (simp [intOf]; done) | (simp [intOf]; omega)
        · obtain rfl : m = j := by omega
          go_wp2
          go_ret2
          exact ⟨A', l, c', rfl, own_base HO.out BK.size, HLL.out, bvia BK hb⟩
  · have e1 : askE t xs ps [th] = ckE t xs ps := by rw [ask_one, if_neg hE]
    have e2 : gatesR t xs ps th = [] := by unfold gatesR; rw [e1, if_neg hE]
    rw [e1, e2]
    generalize ckE t xs ps = r at *
    have hr : (r != 0) = true := by simpa using hE
    have hr' : (r == 0) = false := by simpa using hE
    clear hE e1 e2
    go_enter Try.func27, Try.ntmps27
    go_wp2_with fail
    refine (C1.out _ (by go_grown)).mono ?_
    rintro e w1 ⟨rfl, hb1⟩
    have B1 := bvia (show Below w.heap.size w _ by go_grown) hb1
    have HC := Lib.hid (K0.below hb1 K0.lt)
    clear K0 hb1 C1
    have a0 : w1.cell? ⟨w.heap.size, 0, none⟩ = some (.int .i64 t) := HC.out.cell 0
    have a1 : w1.cell? ⟨w.heap.size, 1, none⟩ = some (.slice A n c) := HC.out.cell 1
    have a2 : w1.cell? ⟨w.heap.size, 2, none⟩ = some (.slice B m d) := HC.out.cell 2
    have q := HC.out.lt
    go_wp2
    go_ret2
    exact ⟨none, 0, 0, rfl, World.ownsRow_nil _ _ _ _, rfl, B1⟩
end Go.Proofs.Ytpljaoagiaijiaa
/-
  Contracts: torchonref04.SameInts (for seats without the law of chapter 21).
-/
namespace Go.Proofs.Ytpljaoagiaijiaa
open Go.RowKit
theorem sameInts04 (A B : Option Addr) (n m c d : Nat) (xs ys : List Int) (w : World) (hn : n ≤ 9223372036854775807) (hm : m ≤ 9223372036854775807) (hx : RdI w w.heap.size A xs) (hy : RdI w w.heap.size B ys) (hl : xs.length = n) (hl' : ys.length = m) :
    Calls Try.prog 19 #[.slice A n c, .slice B m d] w fun e w' => e = .returned (.bool (xs == ys)) ∧ Below w.heap.size w w' := by
  have HX := Lib.hid hx; clear hx
  have HY := Lib.hid hy; clear hy
  have HL := Lib.hid hl; clear hl
  have HM := Lib.hid hl'; clear hl'
  by_cases hnm : n = m
  · subst hnm
    go_enter Try.func19, Try.ntmps19
    go_wp2
    go_loopw [5] (fun i wr => ∃ k : Nat, k ≤ n ∧ i = .int .i64 k ∧ Below w.heap.size w wr ∧ (∀ (j : Nat) (x : Int), j < k → xs[j]? = some x → ys[j]? = some x)) (fun i _ => n - (intOf i).toNat)
    case atStart => exact ⟨0, Nat.zero_le _, rfl, by go_grown, fun j _ hj => absurd hj (by omega)⟩
    case round =>
      obtain ⟨k, hk, rfl, hbw, hno⟩ := hrel
      have H := Lib.hid hno; clear hno
      by_cases hlt : k < n
      · obtain ⟨x, hx⟩ := get_of_lt (l := xs) (k := k) (by rw [HL.out]; exact hlt)
        obtain ⟨y, hy⟩ := get_of_lt (l := ys) (k := k) (by rw [HM.out]; exact hlt)
        obtain ⟨b, o, rfl, hb, c1⟩ := (HX.out.below hbw (Nat.le_refl _)) k x hx
        obtain ⟨b', o', rfl, hb', c1'⟩ := (HY.out.below hbw (Nat.le_refl _)) k y hy
        have HX' := Lib.hid hx; clear hx
        have HY' := Lib.hid hy; clear hy
        go_wp2
        go_quiet (fail)
        go_wp2
        · go_ret
          exact ⟨ret_bool (beq_false (ne_of_get HX'.out HY'.out (by simpa using ‹(x != y) = true›))), below_drewN hbw _⟩
        · go_roundw
          case rel => exact ⟨k + 1, by omega, by go_num, below_drewN hbw _, pw_step H.out HX'.out HY'.out (by simpa using ‹(x != y) = false›)⟩
          case measure => simp [intOf]; omega
      · go_wp2
        go_ret
        exact ⟨ret_bool (beq_true (eq_of_get (by rw [HL.out, HM.out]) (fun j x hx => H.out j x (by have := lt_of_get hx; rw [HL.out] at this; omega) hx))), hbw⟩
  · go_enter Try.func19, Try.ntmps19
    go_wp2
    go_ret
    exact ⟨ret_bool (beq_false (ne_of_len HL.out HM.out hnm)), by go_grown⟩
end Go.Proofs.Ytpljaoagiaijiaa
