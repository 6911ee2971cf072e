/-
  Contract of chapter 16: the pillow's method Save.
-/
import Derived.Test.YtaenafcecfdffaaVB1
import Derived.Test.YtaenafcecfdffaaVB2
import Derived.Test.YtaenafcecfdffaaVB3
import Derived.Test.YtaenafcecfdffaaVB7
import Derived.Test.YtaenafcecfdffaaVB9
import Derived.Laws.CopyOwn
import Derived.Deep.Cut
namespace Go.Proofs.Ytaenafcecfdffaa
open Go.RowKit
/-- an ending: a slice of bytes of the call's own -/
def RetU8 (xs : List UInt8) (w : World) (e : Ending) (w' : World) : Prop := ∃ A n c, e = .returned (.slice A n c) ∧ w'.ownsRow w.heap.size 5 1 (.slice A n c) n (xs.map vB) ∧ xs.length = n ∧ Below w.heap.size w w'
def stepB (x : Wk) : List UInt8 := [bI x.kind, bI x.at_, bI (x.word.size : Int)] ++ x.word.data.toList
def saveS (p s : Int) (l : List Wk) (k : Nat) : List UInt8 := [80, 76, 1, bI p, bI s] ++ putL (l.length : Int) 2 ++ (l.take k).flatMap stepB
def saveO (b : List UInt8) (os : List Int) (k : Nat) : List UInt8 := b ++ putL (os.length : Int) 2 ++ (os.take k).flatMap (fun i => putL i 2)
def saveA (p s : Int) (z : Pil) : List UInt8 := saveO (saveS p s z.steps z.steps.length) (outL z.ps z.ps.length) (outL z.ps z.ps.length).length
def saveB (p s : Int) (z : Pil) : List UInt8 := saveA p s z ++ putL (sumB (saveA p s z)) 4
theorem sumStep_bnd (h : Int) (x : UInt8) : 0 ≤ sumStep h x ∧ sumStep h x < 4294967296 := by unfold sumStep; omega
theorem sumB_bnd (xs : List UInt8) : 0 ≤ sumB xs ∧ sumB xs < 4294967296 := by
  rcases List.eq_nil_or_concat xs with rfl | ⟨l, x, rfl⟩
  · exact ⟨by decide, by decide⟩
  · unfold sumB
    rw [List.concat_eq_append, List.foldl_append]
    exact sumStep_bnd _ _
theorem stepB_len (x : Wk) : (stepB x).length = 3 + x.word.size := by
  unfold stepB
  rw [List.length_append, Array.length_toList]
  rfl
theorem steps_len (l : List Wk) (h : ∀ x ∈ l, x.word.size ≤ 1000) : (l.flatMap stepB).length ≤ l.length * 1003 := by
  induction l with
  | nil => simp
  | cons x l ih =>
    rw [List.flatMap_cons, List.length_append, stepB_len, List.length_cons]
    have h1 := h x (List.mem_cons_self ..)
    have h2 := ih (fun y hy => h y (List.mem_cons_of_mem _ hy))
    omega
theorem saveS_len (p s : Int) (l : List Wk) (k : Nat) (h : ∀ x ∈ l, x.word.size ≤ 1000) : (saveS p s l k).length ≤ 7 + l.length * 1003 := by
  unfold saveS
  rw [List.length_append, List.length_append, putL_len]
  have h1 := steps_len (l.take k) (fun x hx => h x (List.mem_of_mem_take hx))
  have h2 : (l.take k).length ≤ l.length := by rw [List.length_take]; omega
  have h3 : (l.take k).length * 1003 ≤ l.length * 1003 := Nat.mul_le_mul_right _ h2
  simp only [List.length_cons, List.length_nil]
  omega
theorem saveS_succ {p s : Int} {l : List Wk} {k : Nat} {x : Wk} (h : l[k]? = some x) : saveS p s l (k + 1) = saveS p s l k ++ [bI x.kind, bI x.at_, bI (x.word.size : Int)] ++ x.word.data.toList := by
  unfold saveS
  rw [List.take_add_one, h]
  show _ ++ (l.take k ++ [x]).flatMap stepB = _
  rw [List.flatMap_append, List.flatMap_cons, List.flatMap_nil, List.append_nil, ← List.append_assoc]
  show _ ++ (_ ++ _) = _
  rw [← List.append_assoc]
theorem putf_len (os : List Int) : (os.flatMap (fun i => putL i 2)).length = os.length * 2 := by
  induction os with
  | nil => rfl
  | cons x l ih => rw [List.flatMap_cons, List.length_append, putL_len, ih, List.length_cons]; omega
theorem saveO_len (b : List UInt8) (os : List Int) (k : Nat) : (saveO b os k).length ≤ b.length + 2 + os.length * 2 := by
  unfold saveO
  rw [List.length_append, List.length_append, putL_len, putf_len, List.length_take]
  have : min k os.length * 2 ≤ os.length * 2 := Nat.mul_le_mul_right _ (by omega)
  omega
theorem saveO_succ {b : List UInt8} {os : List Int} {k : Nat} {i : Int} (h : os[k]? = some i) : saveO b os (k + 1) = saveO b os k ++ putL i 2 := by
  unfold saveO
  rw [List.take_add_one, h]
  show _ ++ (os.take k ++ [i]).flatMap _ = _
  rw [List.flatMap_append, ← List.append_assoc]
  simp
theorem save_step {W wo w5 : World} {n' g1 cap1 : Nat} {A' : Option Addr} {c' : Nat} {bs cs : List UInt8} {xk xa : Int} {xw : ByteArray} (HB : Below W.heap.size W wo) (HO : wo.ownsRow W.heap.size 5 1 (.slice A' n' c') n' (bs.map vB))
    (hgrow1 : ((wo.alloc (.cells #[.int .i64 xk, .int .i64 xa, .string xw] 35)).alloc (.cells (cs.map vB).toArray 5)).grownBy w5 (Value.slice A' n' c').ownBlock)
    (hown1 : w5.ownsRow W.heap.size 5 1 (.slice (some ⟨g1, 0, none⟩) (n' + 3) cap1) (n' + 3) (bs.map vB ++ cs.map vB)) :
    Below W.heap.size W w5 ∧ Has w5 wo.heap.size 35 [.int .i64 xk, .int .i64 xa, .string xw] ∧ w5.ownsRow W.heap.size 5 1 (.slice (some ⟨g1, 0, none⟩) (n' + 3) cap1) (n' + 3) ((bs ++ cs).map vB) := by
  have hz := HB.size
  have BA : Below W.heap.size W (wo.alloc (.cells #[.int .i64 xk, .int .i64 xa, .string xw] 35)) := HB.alloc hz _
  refine ⟨(BA.alloc BA.size _).grown hgrow1 (by simp; omega) (fun k hk => (HO.lt k hk).1), ?_, by rw [List.map_append]; exact hown1⟩
  have K : Has (wo.alloc (.cells #[.int .i64 xk, .int .i64 xa, .string xw] 35)) wo.heap.size 35 [.int .i64 xk, .int .i64 xa, .string xw] := Has.new rfl
  refine (K.alloc _).same (hgrow1.block _ (K.alloc (.cells (cs.map vB).toArray 5)).lt (fun e => ?_))
  have := (HO.lt _ e.symm).2
  omega
set_option maxRecDepth 100000 in
set_option maxHeartbeats 8000000 in
theorem saveC (B g : Nat) (p s : Int) (z : Pil) (S M V L X P : Value) (W : World) (h : PilH W B g p s z S M V L X P) (hp : 0 < p) (hn : z.ps.length ≤ 1000000) (hs : z.steps.length ≤ 1000) (hw : ∀ x ∈ z.steps, x.word.size ≤ 1000) :
    Calls Try.prog 20 #[.pointer (some ⟨g, 0, none⟩)] W (RetU8 (saveB p s z) W) := by
  have o0 : W.ownsRow B 35 3 S z.steps.length (wksCells z.steps) := h.o 0 _ rfl
  obtain ⟨SA, sc, rfl⟩ := own_form o0
  have CM := Lib.hid (madeC g p W hp (RowsH.cell h 0))
  have hg := h.c.lt
  have a0 : W.cell? ⟨g, 0, none⟩ = some (.int .i64 p) := RowsH.cell h 0
  have a1 : W.cell? ⟨g, 1, none⟩ = some (.int .i64 s) := RowsH.cell h 1
  have RS := Lib.hid (own_rdW o0)
  have H := Lib.hid h
  have HW := Lib.hid hw
  clear h o0 hw
  have b5 : ∀ x : Int, IntKind.u8.wrap x = ((bI x).toNat : Int) := wrap_bI
  go_enter Try.func20, Try.ntmps20
  go_wp2_with fail
  refine CM.out.mono ?_
  rintro e w1 ⟨rfl, rfl⟩
  clear CM
  go_wp2
  go_region
  obtain ⟨W2, hW2⟩ : ∃ W2, W2 = (W.alloc (.cells #[.int .u8 80, .int .u8 76, .int .u8 1, vB (bI p), vB (bI s)] 5)).drew := ⟨_, rfl⟩
  rewrite [← hW2]
  have B2 : Hid (Below W.heap.size W W2) := by rw [hW2]; exact ((Below.refl W.heap.size W).alloc (Nat.le_refl _) _).drew
  have H2 : Hid (PilH W2 B g p s z (.slice SA z.steps.length sc) M V L X P) := RowsH.below H.out B2.out
  have O2 : Hid (W2.ownsRow W.heap.size 5 1 (.slice (some ⟨W.heap.size, 0, none⟩) 5 5) 5 (([80, 76, 1, bI p, bI s] : List UInt8).map vB)) := by
    rw [hW2]
    exact World.ownsRow_lit W _ 5 (Nat.le_refl _) (by decide) rfl
  have C2 := Lib.hid (put2C W.heap.size _ _ 5 (z.steps.length : Int) W2 O2.out B2.out.size (by decide))
  have b3 : W2.cell? ⟨g, 3, none⟩ = some (.slice SA z.steps.length sc) := RowsH.cell H2.out 3
  have hg2 := H2.out.c.lt
  have R2 := Lib.hid (RS.out.up B2.out)
  clear hW2 a0 a1 hg O2
  go_wp2_with fail
  refine C2.out.mono ?_
  rintro e w3 ⟨A3, c3, rfl, o3, hb3, _⟩
  have O3 : Hid (w3.ownsRow W.heap.size 5 1 (.slice A3 (5 + 2) c3) (5 + 2) ((saveS p s z.steps 0).map vB)) := o3
  have B3 := Lib.hid (B2.out.trans hb3)
  have H3 := Lib.hid (RowsH.below H.out B3.out)
  have R3 := Lib.hid (RS.out.up B3.out)
  have d3 : w3.cell? ⟨g, 3, none⟩ = some (.slice SA z.steps.length sc) := RowsH.cell H3.out 3
  have hg3 := H3.out.c.lt
  clear o3 hb3 b3 hg2 C2 H2 B2 R2
  go_wp2
  go_loopw [3, 36] (fun v i wr => ∃ (k n' : Nat) (A' : Option Addr) (c' : Nat), k ≤ z.steps.length ∧ i = .int .i64 (k : Int) ∧ v = .slice A' n' c' ∧ Hid (wr.ownsRow W.heap.size 5 1 v n' ((saveS p s z.steps k).map vB)) ∧ Hid ((saveS p s z.steps k).length = n') ∧ Hid (Below W.heap.size W wr)) (fun _ i _ => z.steps.length - (intOf i).toNat)
  case atStart => exact ⟨0, 5 + 2, A3, c3, Nat.zero_le _, rfl, rfl, O3, Lib.hid rfl, B3⟩
  case round =>
    clear O3 B3 H3 R3 d3 hg3
    obtain ⟨k, n', A', c', hk, rfl, rfl, HO, HLn, HB⟩ := hrel
    obtain ⟨wo, rfl⟩ : ∃ wo : World, wo = wr := ⟨_, rfl⟩
    have hz := HB.out.size
    have hnb : n' ≤ 2000000 := by
      have h1 := saveS_len p s z.steps k HW.out
      have h2 := HLn.out
      omega
    by_cases hlt : k < z.steps.length
    · have jk : (k : Int) < (z.steps.length : Int) := by omega
      obtain ⟨x, hx⟩ := get_of_lt hlt
      obtain ⟨b, o, hA, hb, c0, c1, c2⟩ := (RS.out.up HB.out) k x hx
      subst hA
      have HS := Lib.hid (saveS_succ (p := p) (s := s) hx)
      have hxs := HW.out x (mem_of_get hx)
      clear hx
      obtain ⟨xk, xa, xw⟩ := x
      simp only [] at c0 c1 c2 hxs HS
      have HA := Lib.hid (HO.out.alloc (.cells #[.int .i64 xk, .int .i64 xa, .string xw] 35))
      have BA := Lib.hid (HB.out.trans (show Below W.heap.size wo (wo.alloc (.cells #[.int .i64 xk, .int .i64 xa, .string xw] 35)) from (Below.refl _ _).alloc hz _))
      have hza := BA.out.size
      go_wp2_with (first | (at_builtin; (refine wpList_appM rfl (.tmp 40) (.tmp 51) _ rfl W.heap.size 5 (.int .u8 0) 1 1 Try.underlying53 infoB rfl (by omega) (by omega) (.slice A' n' c') _ _ rfl (HA.out.alloc _) 3 _ _ (by omega) [vB (bI xk), vB (bI xa), vB (bI (xw.size : Int))] rfl rfl (news_at _ [vB (bI xk), vB (bI xa), vB (bI (xw.size : Int))] _ (by simp)) (one_bytes [bI xk, bI xa, bI (xw.size : Int)]) (by omega) (by simp; omega) ?_); intro g1 cap1 w5 hg1 hown1 hgrow1 hor1; obtain ⟨hs5, hk5, ho5⟩ := save_step (cs := [bI xk, bI xa, bI (xw.size : Int)]) HB.out HO.out hgrow1 hown1; have HS5 := Lib.hid hs5; have O5 := Lib.hid ho5; have k5 : w5.cell? ⟨wo.heap.size, 2, none⟩ = some (.string xw) := hk5.cell 2; have q5 := hk5.lt; have hz5 := HS5.out.size; clear hs5 hk5 ho5 hown1 hgrow1) | (at_builtin; refine wpList_appS rfl (.tmp 53) (.tmp 55) rfl W.heap.size (.slice (some ⟨g1, 0, none⟩) (n' + 3) cap1) _ _ rfl O5.out xw rfl (by omega) hz5 ?_; intro A6 c6 w6 hown6 hgrow6))
      go_roundw
      case rel =>
        refine ⟨k + 1, n' + 3 + xw.size, A6, c6, by omega, by go_num, rfl, ?_, ?_, ?_⟩
        · show World.ownsRow _ _ _ _ _ _ _
          rw [HS.out]; exact hown6
        · show _ = _
          rw [HS.out, List.length_append, List.length_append, HLn.out, Array.length_toList]; rfl
        · show Below _ _ _
          exact HS5.out.grown hgrow6 hz5 (fun k hk => (O5.out.lt k hk).1)
      case measure => first | (simp [intOf]; done) | (simp [intOf]; omega)
    · obtain rfl : k = z.steps.length := by omega
      have jk : ¬ (z.steps.length : Int) < (z.steps.length : Int) := by omega
      have H4 := Lib.hid (RowsH.below H.out HB.out)
      have COU := Lib.hid (outC B g p s z (.slice SA z.steps.length sc) M V L X P wo H4.out hn)
      have HOL := outL_len z.ps z.ps.length
      have HOB := Lib.hid (outL_bnd z.ps z.ps.length)
      obtain ⟨os, hos⟩ : ∃ os, os = outL z.ps z.ps.length := ⟨_, rfl⟩
      have HOS := Lib.hid hos
      rw [← hos] at COU HOL HOB
      obtain ⟨ss, hss⟩ : ∃ ss, ss = saveS p s z.steps z.steps.length := ⟨_, rfl⟩
      have HSS := Lib.hid hss
      rw [← hss] at HO HLn
      clear hos hss H4
      go_wp2_with fail
      refine COU.out.mono ?_
      rintro e w4 ⟨A4, n4, c4, rfl, o4, l4, hb4⟩
      have OS4 := Lib.hid o4
      have L4 := Lib.hid l4
      have O4 := Lib.hid (own_below HO.out hb4)
      have B4 := Lib.hid (bvia HB.out hb4)
      have hn4 : n4 ≤ 1000000 := by omega
      have C4 := Lib.hid (put2C W.heap.size _ _ n' (n4 : Int) w4 O4.out B4.out.size (by omega))
      clear o4 l4 hb4 COU HO HB
      go_wp2_with fail
      refine C4.out.mono ?_
      rintro e w5 ⟨A5, c5, rfl, o5, hb5, hk5⟩
      have OI5 := Lib.hid (hk5.own OS4.out (fun r hr e => own_apart OS4.out O4.out (by decide) hr e))
      have O5 : Hid (w5.ownsRow W.heap.size 5 1 (.slice A5 (n' + 2) c5) (n' + 2) ((saveO ss os 0).map vB)) := by
        show World.ownsRow _ _ _ _ _ _ _
        unfold saveO
        rw [L4.out, List.take_zero, List.flatMap_nil, List.append_nil]
        exact o5
      have hz4 := B4.out.size
      have B5 := Lib.hid (B4.out.trans hb5)
      have hssb : n' ≤ 2000000 := hnb
      have hosl : os.length = n4 := L4.out
      clear hk5 hb5 C4 O4 B4 hz4 o5 hnb
      go_wp2
      go_loopw [3, 67] (fun v i wr => ∃ (j m' : Nat) (A' : Option Addr) (c' : Nat), j ≤ n4 ∧ i = .int .i64 (j : Int) ∧ v = .slice A' m' c' ∧ Hid (wr.ownsRow W.heap.size 5 1 v m' ((saveO ss os j).map vB)) ∧ Hid ((saveO ss os j).length = m') ∧ Hid (Below W.heap.size W wr) ∧ Hid (wr.ownsRow wo.heap.size 3 1 (.slice A4 n4 c4) n4 (os.map vInt))) (fun _ i _ => n4 - (intOf i).toNat)
      case atStart =>
        refine ⟨0, n' + 2, A5, c5, Nat.zero_le _, rfl, rfl, O5, ?_, B5, ?_⟩
        · show _ = _
          unfold saveO
          rw [List.take_zero, List.flatMap_nil, List.append_nil, List.length_append, putL_len, HLn.out]
        · exact OI5
      case round =>
        clear O5 B5 OS4 OI5
        obtain ⟨j, m', A', c', hj, rfl, rfl, HO, HLm, HB, HOI⟩ := hrel
        obtain ⟨wq, rfl⟩ : ∃ wq : World, wq = wr := ⟨_, rfl⟩
        have hmb : m' ≤ 5000000 := by
          have h1 := saveO_len ss os j
          have h2 := HLm.out
          have h3 := HLn.out
          omega
        by_cases hlt2 : j < n4
        · have jk : (j : Int) < (n4 : Int) := by omega
          obtain ⟨i, hi⟩ := get_of_lt (l := os) (k := j) (by omega)
          obtain ⟨b, o, rfl, hb, c0⟩ := own_rd1 HOI.out j i hi
          obtain ⟨hi0, hi1⟩ := HOB.out i (mem_of_get hi)
          have HS := Lib.hid (saveO_succ (b := ss) hi)
          have C6 := Lib.hid (put2C W.heap.size _ _ m' i wq HO.out HB.out.size (by omega))
          clear hi
          go_wp2_with fail
          refine C6.out.mono ?_
          rintro e w6 ⟨A6, c6, rfl, o6, hb6, hk6⟩
          have OI6 := Lib.hid (hk6.own HOI.out (fun r hr e => own_apart HOI.out HO.out (by decide) hr e))
          clear hk6
          go_wp2
          go_roundw
          case rel =>
            refine ⟨j + 1, m' + 2, A6, c6, by omega, by go_num, rfl, ?_, ?_, ?_, ?_⟩
            · show World.ownsRow _ _ _ _ _ _ _
              rw [HS.out]; exact o6
            · show _ = _
              rw [HS.out, List.length_append, putL_len, HLm.out]
            · exact HB.out.trans hb6
            · exact OI6
          case measure => first | (simp [intOf]; done) | (simp [intOf]; omega)
        · obtain rfl : j = n4 := by omega
          have jk : ¬ (j : Int) < (j : Int) := by omega
          have C7 := Lib.hid (sumC A' m' c' _ wq (own_rd1 HO.out) HLm.out (by omega))
          have HSA : Hid (saveO ss os j = saveA p s z) := by
            show _ = _
            unfold saveA
            rw [← HOS.out, ← HSS.out, hosl]
          rw [HSA.out] at C7 HO HLm
          have C8 := Lib.hid (put4C W.heap.size _ _ m' (sumB (saveA p s z)) wq HO.out HB.out.size (sumB_bnd _) (by omega))
          go_wp2_with fail
          refine C7.out.mono ?_
          rintro e w7 ⟨rfl, rfl⟩
          go_wp2_with fail
          refine C8.out.mono ?_
          rintro e w8 ⟨A8, c8, rfl, o8, hb8, _⟩
          go_wp2
          go_ret
          exact ⟨A8, m' + 4, c8, rfl, o8, by rw [saveB, List.length_append, putL_len, HLm.out], HB.out.trans hb8⟩
end Go.Proofs.Ytaenafcecfdffaa
/-
  The iterator of slices.Backward over crossings.
-/
namespace Go.Proofs.Ytaenafcecfdffaa
open Go.RowKit
/-- an index, and the crossing there -/
abbrev Bk := Nat × Q4
def encB (x : Bk) : Array Value := #[.int .i64 (x.1 : Int), .agg #[.int .i64 x.2.a, .int .i64 x.2.b, .int .i64 x.2.c, .int .i64 x.2.d]]
/-- the first k crossings from the end -/
def bkTo (qs : List Q4) (k : Nat) : List Bk := (List.range k).map (fun i => (qs.length - 1 - i, qs.getD (qs.length - 1 - i) ⟨0, 0, 0, 0⟩))
theorem bkTo_succ {qs : List Q4} {k : Nat} {q : Q4} (h : qs[qs.length - 1 - k]? = some q) : bkTo qs (k + 1) = bkTo qs k ++ [(qs.length - 1 - k, q)] := by
  unfold bkTo
  rw [List.range_succ, List.map_append, List.map_singleton, List.getD_eq_getElem?_getD, h]; rfl
/-- what a round leaves: all blocks below w0 but lb -/
def KeepL (lb w0 : Nat) (l : Nat) (A B : World) : Prop := A.heap.size ≤ B.heap.size ∧ ∀ r, r < w0 → r ≠ l → r ≠ lb → B.heap[r]? = A.heap[r]?
theorem KeepL.trans {lb w0 l : Nat} {A B C : World} (h : KeepL lb w0 l A B) (k : KeepL lb w0 l B C) : KeepL lb w0 l A C :=
  ⟨Nat.le_trans h.1 k.1, fun r hr hl hb => (k.2 r hr hl hb).trans (h.2 r hr hl hb)⟩
theorem KeepL.put (lb w0 l : Nat) (A : World) (o : Obj) : KeepL lb w0 l A (A.putObj l o) :=
  ⟨Nat.le_of_eq (by simp [World.putObj]), fun r _ hl _ => World.putObj_heap_other hl⟩
def OkB (qs : List Q4) (pre : List Bk) (x : Bk) : Prop := ∃ k, k < qs.length ∧ pre = bkTo qs k ∧ x.1 = qs.length - 1 - k ∧ qs[x.1]? = some x.2
set_option maxRecDepth 100000 in
set_option maxHeartbeats 4000000 in
theorem iterBk (I : List Bk → World → Prop) (l dd bx lb w0 bq oq n c : Nat) (rc0 : Loop) (qs : List Q4) (W : World) (hn : qs.length = n) (hn2 : n ≤ 1000000) (A : Option Addr)
    (hbx : bx < w0) (hbb : bx ≠ lb) (hbq : bq < w0) (hbl : bq ≠ lb) (hw0 : w0 ≤ l) (hl : l < W.heap.size) (h1 : W.cell? ⟨bx, 0, none⟩ = some (.slice A n c)) (hA : 0 < n → A = some ⟨bq, oq, none⟩)
    (hq : ∀ (k : Nat) (x : Q4), qs[k]? = some x → W.cell? ⟨bq, oq + k*4, none⟩ = some (.int .i64 x.a) ∧ W.cell? ⟨bq, oq + k*4+1, none⟩ = some (.int .i64 x.b) ∧ W.cell? ⟨bq, oq + k*4+2, none⟩ = some (.int .i64 x.c) ∧ W.cell? ⟨bq, oq+k*4+3, none⟩ = some (.int .i64 x.d))
    (h0 : Mid I l dd rc0 [] W)
    (hY : ∀ pre x W1, OkB qs pre x → Mid I l dd rc0 pre W1 → YieldAt Fence.wide 0 Try.prog l (encB x) W1 fun e W' => e = .returned (.bool true) ∧ Mid I l dd rc0 (pre ++ [x]) W' ∧ KeepL lb w0 l W1 W') :
    Calls Try.prog 70 #[.func (.yield l) #[] #[], .pointer (some ⟨bx, 0, none⟩)] W fun e W' => (∃ v, e = .returned v) ∧ Mid I l dd rc0 (bkTo qs n) W' := by
  have HY := Lib.hid hY; clear hY
  have HQ := Lib.hid hq; clear hq
  have H0 := Lib.hid h0; clear h0
  have H1 := Lib.hid h1
  have HA := Lib.hid hA; clear hA
  have q0 : bx < W.heap.size := by omega
  have i0 : IntKind.i64.wrap ((n : Int) - 1) = (n : Int) - 1 := IntWalk.i64_in _ (by omega)
  go_enter Try.func70, Try.ntmps70
  go_wp2
  go_loopw [3] (fun v wr => ∃ k : Nat, k ≤ n ∧ v = .int .i64 ((n : Int) - 1 - (k : Int)) ∧ Hid (Mid I l dd rc0 (bkTo qs k) wr) ∧ Hid (KeepL lb w0 l W wr)) (fun v _ => ((intOf v) + 1).toNat)
  case atStart => exact ⟨0, Nat.zero_le _, by go_num, H0, Lib.hid ⟨Nat.le_refl _, fun _ _ _ _ => rfl⟩⟩
  case round =>
    clear H0 h1
    obtain ⟨k, hk, rfl, HM, HK⟩ := hrel
    obtain ⟨wo, rfl⟩ : ∃ wo : World, wo = wr := ⟨_, rfl⟩
    have hsz := HK.out.1
    have q0 : bx < wo.heap.size := by omega
    by_cases hlt : k < n
    · obtain ⟨j, hj⟩ : ∃ j : Nat, j = n - 1 - k := ⟨_, rfl⟩
      have ej : (n : Int) - 1 - (k : Int) = (j : Int) := by omega
      rw [ej]
      obtain ⟨q, hqj⟩ := get_of_lt (l := qs) (k := j) (by omega)
      have hA := HA.out (by omega)
      subst hA
      have b1 : wo.cell? ⟨bx, 0, none⟩ = some (.slice (some ⟨bq, oq, none⟩) n c) := (cell_same (HK.out.2 bx hbx (by omega) hbb)).trans H1.out
      have CC := fun i v (h : W.cell? ⟨bq, i, none⟩ = some v) => (cell_same (a := ⟨bq, i, none⟩) (HK.out.2 bq hbq (by omega) hbl)).trans h
      obtain ⟨c0, c1, c2, c3⟩ := HQ.out j q hqj
      have c0 := CC _ _ c0
      have c1 := CC _ _ c1
      have c2 := CC _ _ c2
      have c3 := CC _ _ c3
      have jn : (j : Int) < (n : Int) := by omega
      have jz : (0 : Int) ≤ (j : Int) := by omega
      have q1 : bq < wo.heap.size := by omega
      have HS := Lib.hid (bkTo_succ (qs := qs) (k := k) (q := q) (by rw [hn, ← hj]; exact hqj))
      rw [hn, ← hj] at HS
      have hY := HY.out (bkTo qs k) (j, q) wo ⟨k, by omega, rfl, by rw [hn]; exact hj, hqj⟩ HM.out
      have eM : encB (j, q) = #[.int .i64 (j : Int), .agg #[.int .i64 q.a, .int .i64 q.b, .int .i64 q.c, .int .i64 q.d]] := rfl
      rw [eM] at hY
      unfold YieldAt at hY
      obtain ⟨fn, tmps, assign, body, hy, hR⟩ := hY
      have HRR := Lib.hid hR
      have hj1 : j + k + 1 ≤ n ∧ n ≤ j + k + 1 := by omega
      clear CC hqj hR eM HM hj ej
      go_upto_region 3 with (fail)
      refine (wpIn_wide (n := 0)).1 ?_
      gi_wp2
      refine ⟨rfl, HRR.out.mono ?_⟩
      rintro e w3 ⟨rfl, hM3, hKS⟩
      have hKS2 := Lib.hid (HK.out.trans hKS)
      clear hKS HK HRR
      gi_wp2
      go_wp2
      go_roundw
      case rel =>
        refine ⟨k + 1, by omega, by first | go_num | (congr 1; omega), ?_, hKS2⟩
        show Mid _ _ _ _ _ _
        rw [HS.out]; exact hM3
      case measure => first | (simp [intOf]; done) | (simp [intOf]; omega)
    · obtain rfl : k = n := by omega
      have e1 : (k : Int) - 1 - (k : Int) = -1 := by omega
      rw [e1]
      go_wp2
      go_end0
      exact ⟨⟨_, rfl⟩, HM.out⟩
end Go.Proofs.Ytaenafcecfdffaa
/-
  Contracts of chapter 16: torchonref02's Perm of a word that is valid.
-/
namespace Go.Proofs.Ytaenafcecfdffaa
open Go.RowKit
theorem mkI02 (n : Nat) (hn : n ≤ 1000) (W : World) : (Instr.makeSlice 39 (.int .i64 (n : Int)) (.int .i64 (n : Int))).run Try.prog W = .ok (.slice (some ⟨W.heap.size, 0, none⟩) n n) (W.alloc (.cells ((List.replicate n (0 : Int)).map vInt).toArray 3)) := by
  obtain ⟨i, hi, hz, hs, hb⟩ := info_parts infoInt
  have h := run_make (P := Try.prog) W 39 3 i (.int .i64 0) Try.underlying39 hi hz .i64 .i64 (n : Int) (n : Int) (by omega) (Int.le_refl _) (by rw [hb]; omega) (by omega)
  rw [hs] at h
  have e : madeCells #[.int .i64 0] n = ((List.replicate n (0 : Int)).map vInt).toArray := by
    apply Array.ext'
    rw [toList_madeCells_one, List.map_replicate]
  simpa [Value.cells, e] using h
set_option maxRecDepth 100000 in
set_option maxHeartbeats 1000000 in
theorem line02 (n : Nat) (hn : n ≤ 1000) (w : World) : Calls Try.prog 42 #[.int .i64 (n : Int)] w (RetO (lineN n) w) := by
  go_enter Try.func42, Try.ntmps42
  go_wp2
  go_loopw [3, 4] (fun v i wr => ∃ (k : Nat) (A' : Option Addr) (c' : Nat), k ≤ n ∧ i = .int .i64 (k : Int) ∧ v = .slice A' k c' ∧ Hid (wr.ownsRow w.heap.size 3 1 v k ((lineN k).map vInt)) ∧ Hid (Below w.heap.size w wr)) (fun _ i _ => n - (intOf i).toNat)
  case atStart => exact ⟨0, none, 0, Nat.zero_le _, rfl, rfl, World.ownsRow_nil _ _ _ _, by show Below _ _ _; exact Below.refl _ _⟩
  case round =>
    obtain ⟨k, A', c', hk, rfl, rfl, HO, HB⟩ := hrel
    obtain ⟨wo, rfl⟩ : ∃ wo : World, wo = wr := ⟨_, rfl⟩
    have hz := HB.out.size
    by_cases hlt : k < n
    · have jk : (k : Int) < (n : Int) := by omega
      go_wp2_with (at_builtin; refine wpList_app rfl (.tmp 10) (.tmp 12) _ rfl w.heap.size 3 (.int .i64 0) 1 8 Try.underlying39 infoInt rfl (by omega) (by omega) (.slice A' k c') _ _ rfl (HO.out.alloc _) wo.heap.size [vInt (k : Int)] rfl rfl (news_new _ _ _) (one_int _ _) (by omega) (by simp; omega) ?_; intro g1 cap1 w3 hg1 hown1 hgrow1 hor1)
      go_roundw
      case rel =>
        refine ⟨k + 1, _, cap1, by omega, by go_num, rfl, ?_, ?_⟩
        · show World.ownsRow _ _ _ _ _ _ _
          rw [lineN_succ, List.map_append]; exact hown1
        · show Below _ _ _
          exact (HB.out.alloc hz (.cells #[.int .i64 (k : Int)] 3)).grown hgrow1 (by simp; omega) (fun k hk => (HO.out.lt k hk).1)
      case measure => first | (simp [intOf]; done) | (simp [intOf]; omega)
    · obtain rfl : k = n := by omega
      have jk : ¬ (k : Int) < (k : Int) := by omega
      go_wp2
      go_ret
      exact ⟨A', k, c', rfl, HO.out, lineN_len k, HB.out⟩
def absN (n : Int) : Nat := n.natAbs
set_option maxRecDepth 100000 in
set_option maxHeartbeats 400000 in
theorem size02 (n : Int) (hn : -1000 ≤ n ∧ n ≤ 1000) (w : World) : Calls Try.prog 43 #[.int .i64 n] w fun e w' => e = .returned (.int .i64 (n.natAbs : Int)) ∧ w = w' := by
  have i1 : IntKind.i64.wrap (-n) = -n := IntWalk.i64_in _ (by omega)
  by_cases h : 0 ≤ n
  · by_cases h0 : n = 0
    · subst h0
      go_enter Try.func43, Try.ntmps43
      go_wp2
      go_ret
      exact ⟨rfl, rfl⟩
    · have d1 : decide (n < -n) = false := decide_eq_false (by omega)
      obtain ⟨m, hm⟩ : ∃ m : Nat, m = n.natAbs := ⟨_, rfl⟩
      have hn2 : n = (m : Int) := by omega
      rw [← hm]
      have HN := Lib.hid hn2
      clear hm hn2
      go_enter Try.func43, Try.ntmps43
      go_wp2
      go_ret
      rw [← HN.out]
      exact ⟨rfl, rfl⟩
  · have d1 : decide (n < -n) = true := decide_eq_true (by omega)
    obtain ⟨m, hm⟩ : ∃ m : Nat, m = n.natAbs := ⟨_, rfl⟩
    have hn2 : -n = (m : Int) := by omega
    rw [← hm]
    have HN := Lib.hid hn2
    clear hm hn2
    go_enter Try.func43, Try.ntmps43
    go_wp2
    go_ret
    rw [← HN.out]
    exact ⟨rfl, rfl⟩
/-- a word that is valid -/
def WordOk (n : Nat) (ws : List Int) : Prop := 1 ≤ n ∧ n ≤ 12 ∧ ws.length ≤ 400 ∧ ∀ u ∈ ws, u ≠ 0 ∧ -(n : Int) < u ∧ u < (n : Int)
set_option maxRecDepth 100000 in
set_option maxHeartbeats 1000000 in
theorem check02 (n : Nat) (A : Option Addr) (m c : Nat) (us : List Int) (w : World) (hr : RdI w w.heap.size A us) (hl : us.length = m) (hok : WordOk n us) :
    Calls Try.prog 41 #[.int .i64 (n : Int), .slice A m c] w fun e w' => e = .returned (.int .i64 0) ∧ w = w' := by
  have HR := Lib.hid hr
  have HL := Lib.hid hl
  obtain ⟨h1, h2, h3, h4⟩ := hok
  have H4 := Lib.hid h4
  rw [hl] at h3
  clear hr hl h4
  have d1 : decide ((n : Int) < 1) = false := decide_eq_false (by omega)
  have d2 : decide ((12 : Int) < (n : Int)) = false := decide_eq_false (by omega)
  have d3 : decide ((400 : Int) < (m : Int)) = false := decide_eq_false (by omega)
  have d1' : decide (n < 1) = false := decide_eq_false (by omega)
  have i1 : IntKind.i64.wrap (-(n : Int)) = -(n : Int) := IntWalk.i64_in _ (by omega)
  go_enter Try.func41, Try.ntmps41
  go_wp2
  go_loopw [5] (fun i wr => ∃ k : Nat, k ≤ m ∧ i = .int .i64 (k : Int) ∧ w = wr) (fun i _ => m - (intOf i).toNat)
  case atStart => exact ⟨0, Nat.zero_le _, rfl, rfl⟩
  case round =>
    obtain ⟨k, hk, rfl, rfl⟩ := hrel
    by_cases hlt : k < m
    · have jk : (k : Int) < (m : Int) := by omega
      obtain ⟨u, hu⟩ := get_of_lt (l := us) (k := k) (by rw [HL.out]; exact hlt)
      obtain ⟨b, o, rfl, hb, c0⟩ := HR.out k u hu
      obtain ⟨e1, e2, e3⟩ := H4.out u (mem_of_get hu)
      have g1 : (u == 0) = false := by simpa using e1
      have g2 : decide (u ≤ -(n : Int)) = false := decide_eq_false (by omega)
      have g3 : decide ((n : Int) ≤ u) = false := decide_eq_false (by omega)
      clear hu
      go_wp2
      go_roundw
      case rel => exact ⟨k + 1, by omega, by go_num, by first | rfl | trivial⟩
      case measure => first | (simp [intOf]; done) | (simp [intOf]; omega)
    · obtain rfl : k = m := by omega
      have jk : ¬ (k : Int) < (k : Int) := by omega
      go_wp2
      go_ret
      exact ⟨rfl, rfl⟩
theorem hasI_rd {w : World} {g : Nat} {cs : List Int} (h : Has w g 3 (cs.map vInt)) : RdI w w.heap.size (some ⟨g, 0, none⟩) cs := fun k x hx => ⟨g, 0, rfl, h.lt, by rw [Nat.zero_add]; exact (h.cell k).trans (by rw [List.getElem?_map, hx]; rfl)⟩
def endsN (l : List Int) : Nat → List Int
  | 0 => List.replicate l.length 0
  | i + 1 => match l[i]? with
    | none => endsN l i
    | some x => (endsN l i).set x.toNat (i : Int)
theorem endsN_succ {l : List Int} {i : Nat} {x : Int} (h : l[i]? = some x) : endsN l (i + 1) = (endsN l i).set x.toNat (i : Int) := by
  show (match l[i]? with | none => _ | some x => _) = _
  rw [h]
theorem endsN_len (l : List Int) : ∀ i, (endsN l i).length = l.length
  | 0 => by simp [endsN]
  | i + 1 => by
    have := endsN_len l i
    unfold endsN
    split
    · exact this
    · rw [List.length_set]; exact this
def RetRd (l : List Int) (w : World) (e : Ending) (w' : World) : Prop := ∃ A n c, e = .returned (.slice A n c) ∧ RdI w' w'.heap.size A l ∧ l.length = n ∧ Below w.heap.size w w'
def RetRdE (l : List Int) (w : World) (e : Ending) (w' : World) : Prop := ∃ A n c, e = .returned (.tuple #[.slice A n c, .int .i64 0]) ∧ RdI w' w'.heap.size A l ∧ l.length = n ∧ Below w.heap.size w w'
set_option maxRecDepth 100000 in
set_option maxHeartbeats 1000000 in
theorem ends02 (A : Option Addr) (n c : Nat) (l : List Int) (w : World) (hr : RdI w w.heap.size A l) (hl : l.length = n) (hn : n ≤ 1000) (hv : ∀ x ∈ l, 0 ≤ x ∧ x < (n : Int)) :
    Calls Try.prog 44 #[.slice A n c] w (RetRd (endsN l n) w) := by
  have HR := Lib.hid hr
  have HL := Lib.hid hl
  have HV := Lib.hid hv
  have hmk := mkI02 n hn
  clear hr hv
  go_enter Try.func44, Try.ntmps44
  go_wp2
  go_loopw [4] (fun i wr => ∃ k : Nat, k ≤ n ∧ i = .int .i64 (k : Int) ∧ Hid (Has wr w.heap.size 3 ((endsN l k).map vInt)) ∧ Hid (Below w.heap.size w wr)) (fun i _ => n - (intOf i).toNat)
  case atStart =>
    refine ⟨0, Nat.zero_le _, rfl, ?_, ?_⟩
    · show Has _ _ _ _
      unfold endsN
      rw [HL.out]
      exact Has.new (by simp)
    · show Below _ _ _
      go_grown
  case round =>
    obtain ⟨k, hk, rfl, HH, HB⟩ := hrel
    obtain ⟨wo, rfl⟩ : ∃ wo : World, wo = wr := ⟨_, rfl⟩
    by_cases hlt : k < n
    · have jk : (k : Int) < (n : Int) := by omega
      obtain ⟨x, hx⟩ := get_of_lt (l := l) (k := k) (by rw [HL.out]; exact hlt)
      obtain ⟨v0, v1⟩ := HV.out x (mem_of_get hx)
      obtain ⟨b, o, rfl, hb, c0⟩ := (HR.out.up HB.out) k x hx
      have HE := Lib.hid (endsN_succ hx)
      have hlen := endsN_len l k
      rw [HL.out] at hlen
      have f0 := HH.out.free x.toNat
      have qh := HH.out.lt
      obtain ⟨u, hu⟩ := get_of_lt (l := (endsN l k).map vInt) (k := x.toNat) (by rw [List.length_map, hlen]; omega)
      have c1 : wo.cell? ⟨w.heap.size, x.toNat, none⟩ = some u := (HH.out.cell x.toNat).trans hu
      clear hx hu hlen
      go_wp2
      go_roundw
      case rel =>
        refine ⟨k + 1, by omega, by go_num, ?_, ?_⟩
        · show Has _ _ _ _
          rw [HE.out, List.map_set]
          exact HH.out.set x.toNat (vInt (k : Int))
        · show Below _ _ _
          exact HB.out.setCell (p := ⟨w.heap.size, x.toNat, none⟩) (Nat.le_refl _) _
      case measure => first | (simp [intOf]; done) | (simp [intOf]; omega)
    · obtain rfl : k = n := by omega
      have jk : ¬ (k : Int) < (k : Int) := by omega
      have hlen := (endsN_len l k).trans HL.out
      go_wp2
      go_ret
      exact ⟨_, _, _, rfl, hasI_rd HH.out, hlen, HB.out⟩
def exch (l : List Int) (t : Nat) : List Int := (l.set t (l.getD (t + 1) 0)).set (t + 1) (l.getD t 0)
theorem exch_len (l : List Int) (t : Nat) : (exch l t).length = l.length := by simp [exch]
/-- the line when the first i letters are done -/
def permN (n : Nat) (us : List Int) (i : Nat) : List Int := (us.take i).foldl (fun l u => exch l (u.natAbs - 1)) (lineN n)
theorem permN_succ {n : Nat} {us : List Int} {i : Nat} {u : Int} (h : us[i]? = some u) : permN n us (i + 1) = exch (permN n us i) (u.natAbs - 1) := by
  unfold permN; rw [List.take_add_one, h, List.foldl_append]; rfl
theorem foldl_exch_len (us : List Int) : ∀ l : List Int, (us.foldl (fun l u => exch l (u.natAbs - 1)) l).length = l.length := by
  induction us with
  | nil => intro l; rfl
  | cons u us ih => intro l; rw [List.foldl_cons, ih, exch_len]
theorem permN_len (n : Nat) (us : List Int) (i : Nat) : (permN n us i).length = n := by
  unfold permN; rw [foldl_exch_len, lineN_len]
theorem exch_mem {l : List Int} {t : Nat} (ht : t + 1 < l.length) : ∀ x ∈ exch l t, x ∈ l := by
  intro x hx
  unfold exch at hx
  rcases List.mem_or_eq_of_mem_set hx with hx | hx
  · rcases List.mem_or_eq_of_mem_set hx with hx | hx
    · exact hx
    · obtain ⟨y, hy⟩ := get_of_lt ht
      rw [hx, List.getD_eq_getElem?_getD, hy]; exact mem_of_get hy
  · obtain ⟨y, hy⟩ := get_of_lt (l := l) (k := t) (by omega)
    rw [hx, List.getD_eq_getElem?_getD, hy]; exact mem_of_get hy
theorem permN_mem {n : Nat} {us : List Int} (hok : WordOk n us) : ∀ i, i ≤ us.length → ∀ x ∈ permN n us i, 0 ≤ x ∧ x < (n : Int)
  | 0, _, x, hx => by
    unfold permN at hx
    simp [lineN] at hx
    obtain ⟨a, ha, rfl⟩ := hx
    omega
  | i + 1, hi, x, hx => by
    obtain ⟨u, hu⟩ := get_of_lt (l := us) (k := i) (by omega)
    rw [permN_succ hu] at hx
    obtain ⟨h1, h2, h3, h4⟩ := hok
    obtain ⟨e1, e2, e3⟩ := h4 u (mem_of_get hu)
    exact permN_mem ⟨h1, h2, h3, h4⟩ i (by omega) x (exch_mem (by rw [permN_len]; omega) x hx)
set_option maxRecDepth 100000 in
set_option maxHeartbeats 4000000 in
theorem perm02 (n : Nat) (A : Option Addr) (m c : Nat) (us : List Int) (w : World) (hr : RdI w w.heap.size A us) (hl : us.length = m) (hok : WordOk n us) :
    Calls Try.prog 19 #[.int .i64 (n : Int), .slice A m c] w (RetRdE (endsN (permN n us m) n) w) := by
  have CK := Lib.hid (check02 n A m c us w hr hl hok)
  have CL := Lib.hid (line02 n (by have := hok.2.1; omega) w)
  have HR := Lib.hid hr
  have HL := Lib.hid hl
  have HOK := Lib.hid hok
  have h12 := hok.2.1
  have h400 : m ≤ 400 := by rw [← hl]; exact hok.2.2.1
  clear hr hl hok
  go_enter Try.func19, Try.ntmps19
  go_wp2_with fail
  refine CK.out.mono ?_
  rintro e w1 ⟨rfl, rfl⟩
  go_wp2_with fail
  refine CL.out.mono ?_
  rintro e w1 ⟨A1, n1, c1, rfl, r1, l1, hb1⟩
  obtain rfl : n = n1 := by rw [← l1, lineN_len]
  have HO1 := Lib.hid r1
  have HB1 := Lib.hid hb1
  clear r1 l1 hb1 CK CL
  go_wp2
  go_loopw [8] (fun i wr => ∃ k : Nat, k ≤ m ∧ i = .int .i64 (k : Int) ∧ Hid (wr.ownsRow w.heap.size 3 1 (.slice A1 n c1) n ((permN n us k).map vInt)) ∧ Hid (Below w.heap.size w wr)) (fun i _ => m - (intOf i).toNat)
  case atStart => exact ⟨0, Nat.zero_le _, rfl, HO1, HB1⟩
  case round =>
    clear HO1 HB1
    obtain ⟨k, hk, rfl, HO, HB⟩ := hrel
    obtain ⟨wo, rfl⟩ : ∃ wo : World, wo = wr := ⟨_, rfl⟩
    by_cases hlt : k < m
    · have jk : (k : Int) < (m : Int) := by omega
      obtain ⟨u, hu⟩ := get_of_lt (l := us) (k := k) (by rw [HL.out]; exact hlt)
      obtain ⟨b, o, rfl, hb, c0⟩ := (HR.out.up HB.out) k u hu
      obtain ⟨e1, e2, e3⟩ := HOK.out.2.2.2 u (mem_of_get hu)
      have HP := Lib.hid (permN_succ (n := n) hu)
      have hlen := permN_len n us k
      obtain ⟨t, ht⟩ : ∃ t, t + 1 = u.natAbs := ⟨u.natAbs - 1, by omega⟩
      rw [show u.natAbs - 1 = t by omega] at HP
      obtain ⟨la, hla⟩ := get_of_lt (l := permN n us k) (k := t) (by omega)
      obtain ⟨lb, hlb⟩ := get_of_lt (l := permN n us k) (k := t + 1) (by omega)
      have HE : Hid (exch (permN n us k) t = ((permN n us k).set t lb).set (t + 1) la) := by
        show _ = _
        unfold exch
        rw [List.getD_eq_getElem?_getD, List.getD_eq_getElem?_getD, hla, hlb]; rfl
      obtain ⟨bl, rfl, hB, hbl, y2⟩ := own_at HO.out (j := t) (u := .int .i64 la) (by rw [List.getElem?_map, hla]; rfl)
      obtain ⟨bl', e', _, _, y3⟩ := own_at HO.out (j := t + 1) (u := .int .i64 lb) (by rw [List.getElem?_map, hlb]; rfl)
      injection e' with e'
      injection e' with e'
      subst e'
      have CZ := Lib.hid (size02 u (by omega) wo)
      rw [← ht] at CZ
      have fz := fun j => HO.out.frozenAt j
      have f0 := fz t
      have f1 := fz (t + 1)
      have j1 : IntKind.i64.wrap (((t + 1 : Nat) : Int) - 1) = (t : Int) := by rw [IntWalk.i64_in _ (by omega)]; omega
      have j2 : (t : Int) < (n : Int) := by omega
      have j3 : ((t + 1 : Nat) : Int) < (n : Int) := by omega
      clear hu hla hlb fz hlen
      go_wp2_with fail
      refine CZ.out.mono ?_
      rintro e w2 ⟨rfl, rfl⟩
      clear ht CZ
      go_wp2
      go_region
      go_wp2
      go_roundw
      case rel =>
        refine ⟨k + 1, by omega, by go_num, ?_, ?_⟩
        · show World.ownsRow _ _ _ _ _ _ _
          rw [HP.out, HE.out, List.map_set, List.map_set]
          exact ((HO.out.stored t (.int .i64 lb)).1.stored (t + 1) (.int .i64 la)).1
        · show Below _ _ _
          exact ((HB.out.setCell (p := ⟨bl, t, none⟩) hB _).setCell (p := ⟨bl, t + 1, none⟩) hB _).drew
      case measure => first | (simp [intOf]; done) | (simp [intOf]; omega)
    · obtain rfl : k = m := by omega
      have jk : ¬ (k : Int) < (k : Int) := by omega
      have CE := Lib.hid (ends02 A1 n c1 (permN n us k) wo (own_rd1 HO.out) (permN_len n us k) (by omega) (permN_mem HOK.out k (by rw [HL.out]; exact Nat.le_refl _)))
      go_wp2_with fail
      refine CE.out.mono ?_
      rintro e w2 ⟨A2, n2, c2, rfl, r2, l2, hb2⟩
      have R2 := Lib.hid r2
      have B2 := Lib.hid (bvia HB.out hb2)
      clear r2 hb2 CE HB HO
      go_wp2
      go_ret2
      exact ⟨A2, n2, c2, rfl, R2.out, l2, B2.out⟩
end Go.Proofs.Ytaenafcecfdffaa
/-
  Contract of cloth.Make: the cloth that a valid sheet makes.
-/
namespace Go.Proofs.Ytaenafcecfdffaa
open Go.RowKit
/-- an ending: a cloth in memory, and an error -/
def RetCE (t : Int) (xs ps : List Q4) (err : Int) (w : World) (e : Ending) (w' : World) : Prop := ∃ A n c B m d, e = .returned (.tuple #[vCloth t A n c B m d, .int .i64 err]) ∧ RdQ w' w'.heap.size A xs ∧ RdQ w' w'.heap.size B ps ∧ xs.length = n ∧ ps.length = m ∧ n ≤ c ∧ c ≤ 9223372036854775807 ∧ m ≤ d ∧ d ≤ 9223372036854775807 ∧ Below w.heap.size w w'
theorem qsC_len (ws : List Q4) : (qsC ws).length = ws.length * 4 := by
  induction ws with
  | nil => rfl
  | cons x ws ih => simp only [qsC, List.flatMap_cons, List.length_append] at ih ⊢; rw [ih]; simp [q4C]; omega
theorem qsC_get {ws : List Q4} {k : Nat} {x : Q4} (hx : ws[k]? = some x) : (qsC ws)[k*4]? = some (.int .i64 x.a) ∧ (qsC ws)[k*4+1]? = some (.int .i64 x.b) ∧ (qsC ws)[k*4+2]? = some (.int .i64 x.c) ∧ (qsC ws)[k*4+3]? = some (.int .i64 x.d) := by
  induction ws generalizing k with
  | nil => simp at hx
  | cons y ws ih =>
    cases k with
    | zero => simp at hx; subst hx; simp [qsC, q4C]
    | succ k =>
      have := ih (k := k) (by simpa using hx)
      have e1 : (k + 1) * 4 = k * 4 + 4 := by omega
      simp only [qsC, List.flatMap_cons] at this ⊢
      rw [e1]
      have hl : (q4C y).length = 4 := rfl
      refine ⟨?_, ?_, ?_, ?_⟩ <;> (rw [List.getElem?_append_right (by rw [hl]; omega), hl])
      · rw [show k * 4 + 4 - 4 = k * 4 by omega]; exact this.1
      · rw [show k * 4 + 4 + 1 - 4 = k * 4 + 1 by omega]; exact this.2.1
      · rw [show k * 4 + 4 + 2 - 4 = k * 4 + 2 by omega]; exact this.2.2.1
      · rw [show k * 4 + 4 + 3 - 4 = k * 4 + 3 by omega]; exact this.2.2.2
theorem own_rdQ {w : World} {base : Nat} {e : TypeId} {n c : Nat} {A : Option Addr} {ws : List Q4} (h : w.ownsRow base e 4 (.slice A n c) n (qsC ws)) : RdQ w w.heap.size A ws := fun k x hx => by
  obtain ⟨e1, e2, e3, e4⟩ := qsC_get hx
  obtain ⟨g, h1, _, h2, h3⟩ := own_at h e1
  obtain ⟨g2, h4, _, _, h5⟩ := own_at h e2
  obtain ⟨g3, h6, _, _, h7⟩ := own_at h e3
  obtain ⟨g4, h8, _, _, h9⟩ := own_at h e4
  obtain rfl : g = g2 := by rw [h1] at h4; injection h4 with h4; injection h4
  obtain rfl : g = g3 := by rw [h1] at h6; injection h6 with h6; injection h6
  obtain rfl : g = g4 := by rw [h1] at h8; injection h8 with h8; injection h8
  exact ⟨g, 0, h1, h2, by rw [Nat.zero_add]; exact h3, by rw [Nat.zero_add]; exact h5, by rw [Nat.zero_add]; exact h7, by rw [Nat.zero_add]; exact h9⟩
end Go.Proofs.Ytaenafcecfdffaa
/-
  Contract of chapter 16: the law's stand, where each pin stands at some moment, in order.
-/
namespace Go.Proofs.Ytaenafcecfdffaa
open Go.RowKit
/-- a slice of slices of ints -/
def RdM (w : World) (B : Nat) (A : Option Addr) (ms : List (List Int)) : Prop :=
  ∀ (k : Nat) (l : List Int), ms[k]? = some l → ∃ b o A' c', A = some ⟨b, o, none⟩ ∧ b < B ∧ w.cell? ⟨b, o + k, none⟩ = some (.slice A' l.length c') ∧ RdI w B A' l
theorem RdM.up {w w' : World} {A : Option Addr} {ms : List (List Int)} (h : RdM w w.heap.size A ms) (hb : Below w.heap.size w w') : RdM w' w'.heap.size A ms := fun k l hk => by
  obtain ⟨b, o, A', c', e, h1, h2, h3⟩ := h k l hk
  exact ⟨b, o, A', c', e, Nat.lt_of_lt_of_le h1 hb.size, (hb.cell (p := ⟨b, o + k, none⟩) h1).trans h2, Rd1.up h3 hb⟩
/-- pin q stands at the moment l -/
def Stands (q : Q4) (l : List Int) : Prop := ∃ t : Nat, q.b = (t : Int) ∧ t + 1 < l.length ∧ l[t]? = some q.c ∧ l[t + 1]? = some q.d
structure StandH (qs : List Q4) (ms : List (List Int)) (T : Nat) (f : Nat → Nat) : Prop where
  len : ∀ l ∈ ms, l.length = T
  at_ : ∀ (j : Nat) (q : Q4), qs[j]? = some q → ∃ l, ms[f j]? = some l ∧ Stands q l
  up : ∀ i j, i ≤ j → f i ≤ f j
set_option maxRecDepth 100000 in
set_option maxHeartbeats 4000000 in
theorem standOk (A : Option Addr) (m c : Nat) (D : Option Addr) (n d : Nat) (qs : List Q4) (ms : List (List Int)) (T : Nat) (f : Nat → Nat) (w : World) (hq : RdQ w w.heap.size A qs) (hl : qs.length = m) (hm : RdM w w.heap.size D ms) (hl2 : ms.length = n) (hn : n ≤ 100000) (hT : T ≤ 48) (hs : StandH qs ms T f) (hmm : m ≤ 100000) :
    Calls Try.prog 16 #[.slice A m c, .slice D n d] w fun e w' => e = .returned (.bool true) ∧ Below w.heap.size w w' := by
  have HQ := Lib.hid hq
  have HL := Lib.hid hl
  have HM := Lib.hid hm
  have HL2 := Lib.hid hl2
  have HS := Lib.hid hs
  clear hq hl hm hl2 hs
  go_enter Try.func16, Try.ntmps16
  go_wp2
  go_loopw [5, 6] (fun av kv wr => ∃ (k a : Nat), k ≤ m ∧ (k < m → a ≤ f k) ∧ kv = .int .i64 (k : Int) ∧ av = .int .i64 (a : Int) ∧ Hid (Below w.heap.size w wr)) (fun _ kv _ => m - (intOf kv).toNat)
  case atStart => exact ⟨0, 0, Nat.zero_le _, fun _ => Nat.zero_le _, rfl, rfl, by show Below _ _ _; exact Below.refl _ _⟩
  case round =>
    obtain ⟨k, a, hk, hka, rfl, rfl, HB⟩ := hrel
    obtain ⟨wo, rfl⟩ : ∃ wo : World, wo = wr := ⟨_, rfl⟩
    by_cases hlt : k < m
    · have jk : (k : Int) < (m : Int) := by omega
      obtain ⟨q, hqk⟩ := get_of_lt (l := qs) (k := k) (by rw [HL.out]; exact hlt)
      obtain ⟨lf, hlf, t, ht, htT, hc, hd⟩ := HS.out.at_ k q hqk
      have hTl := HS.out.len lf (mem_of_get hlf)
      rw [hTl] at htT
      have hfn : f k < n := by rw [← HL2.out]; exact lt_of_get hlf
      obtain ⟨b, o, rfl, hb, c0, c1, c2, c3⟩ := (HQ.out.up HB.out) k q hqk
      obtain ⟨l0, hl0⟩ := get_of_lt (l := ms) (k := 0) (by rw [HL2.out]; omega)
      obtain ⟨b2, o2, A0, d0, hD, hb2, e0, _⟩ := (HM.out.up HB.out) 0 l0 hl0
      rw [HS.out.len l0 (mem_of_get hl0)] at e0
      subst hD
      rw [ht] at c1
      have i1 : IntKind.i64.wrap ((t : Int) + 1) = (t : Int) + 1 := IntWalk.i64_in _ (by omega)
      have g1 : decide ((t : Int) < 0) = false := decide_eq_false (by omega)
      have g2 : decide ((T : Int) ≤ (t : Int) + 1) = false := decide_eq_false (by omega)
      have hak := hka hlt
      have HF := Lib.hid (show ∀ j, k ≤ j → f k ≤ f j from fun j hj => HS.out.up k j hj)
      have HC := Lib.hid (⟨hlf, hc, hd⟩ : ms[f k]? = some lf ∧ lf[t]? = some q.c ∧ lf[t + 1]? = some q.d)
      have n0 : 0 < n := by omega
      have n0' : (0 : Int) < (n : Int) := by omega
      clear hka hqk hlf hc hd hTl hl0 ht
      rw [Nat.add_zero] at e0
      go_wp2
      go_loopw [5] (fun av wr => ∃ (a : Nat), a ≤ f k ∧ av = .int .i64 (a : Int) ∧ Hid (Below wo.heap.size wo wr)) (fun av _ => f k - (intOf av).toNat)
      case atStart => exact ⟨a, hak, rfl, by show Below _ _ _; exact Below.refl _ _⟩
      case round =>
        clear hak
        obtain ⟨a, ha, rfl, HC2⟩ := hrel
        obtain ⟨wq, rfl⟩ : ∃ wq : World, wq = wr := ⟨_, rfl⟩
        obtain ⟨la, hla⟩ := get_of_lt (l := ms) (k := a) (by rw [HL2.out]; omega)
        obtain ⟨b3, o3, A3, d3, hD3, hb3, e3, r3⟩ := (HM.out.up (bvia HB.out HC2.out)) a la hla
        injection hD3 with hD3
        injection hD3 with hD1 hD2
        subst hD1 hD2
        have hlT := HS.out.len la (mem_of_get hla)
        rw [hlT] at e3
        obtain ⟨u, hu⟩ := get_of_lt (l := la) (k := t) (by omega)
        obtain ⟨v, hv⟩ := get_of_lt (l := la) (k := t + 1) (by omega)
        obtain ⟨b4, o4, hA4, hb4, x0⟩ := r3 t u hu
        subst hA4
        obtain ⟨b5, o5, hA5, hb5, x1⟩ := r3 (t + 1) v hv
        injection hA5 with hA5
        injection hA5 with hA1 hA2
        subst hA1 hA2
        have y2 : wq.cell? ⟨b, o + k * 4 + 2, none⟩ = some (.int .i64 q.c) := (HC2.out.cell (p := ⟨b, o + k * 4 + 2, none⟩) hb).trans c2
        have y3 : wq.cell? ⟨b, o + k * 4 + 3, none⟩ = some (.int .i64 q.d) := (HC2.out.cell (p := ⟨b, o + k * 4 + 3, none⟩) hb).trans c3
        have j1 : (a : Int) < (n : Int) := by omega
        have j2 : (t : Int) < (T : Int) := by omega
        have j3 : (t : Int) + 1 < (T : Int) := by omega
        have j4 : (0 : Int) ≤ (t : Int) + 1 := by omega
        have j5 : ((t : Int) + 1).toNat = t + 1 := by omega
        have x1' : wq.cell? ⟨b4, o4 + (t + 1), none⟩ = some (.int .i64 v) := x1
        have x0' : wq.cell? ⟨b4, o4 + t, none⟩ = some (.int .i64 u) := x0
        have HLA := Lib.hid hla
        have HU := Lib.hid hu
        have HV := Lib.hid hv
        clear hla hu hv r3 x0 x1 hlT
        by_cases hcu : u = q.c
        · by_cases hcv : v = q.d
          · have p1 : (u != q.c) = false := by simpa using hcu
            have p2 : (v != q.d) = false := by simpa using hcv
            have p3 : ((a : Int) == (n : Int)) = false := by simp; omega
            have p4 : decide ((a : Int) < (n : Int)) = true := decide_eq_true j1
            have HK2 := Lib.hid (show k + 1 < m → a ≤ f (k + 1) from fun _ => Nat.le_trans ha (HF.out (k + 1) (Nat.le_succ k)))
            clear hcu hcv
            go_wp2
            go_big_quiet (fail)
            go_wp2
            go_roundw
            case rel => exact ⟨k + 1, a, by omega, HK2.out, by go_num, rfl, by show Below _ _ _; exact below_drewN (bvia HB.out HC2.out) _⟩
            case measure => first | (simp [intOf]; done) | (simp [intOf]; omega)
          · have p1 : (u != q.c) = false := by simpa using hcu
            have p2 : (v != q.d) = true := by simpa using hcv
            have p4 : decide ((a : Int) < (n : Int)) = true := decide_eq_true j1
            have hne : a ≠ f k := fun e => by
              subst e
              have h1 := HLA.out.symm.trans HC.out.1
              injection h1 with h1
              subst h1
              have h2 := HV.out.symm.trans HC.out.2.2
              injection h2 with h2
              exact hcv h2
            clear hcu hcv
            go_wp2
            go_big_quiet (fail)
            go_wp2
            go_roundw
            case rel => exact ⟨a + 1, by omega, by go_num, below_drewN HC2.out _⟩
            case measure => first | (simp [intOf]; done) | (simp [intOf]; omega)
        · have p1 : (u != q.c) = true := by simpa using hcu
          have p4 : decide ((a : Int) < (n : Int)) = true := decide_eq_true j1
          have hne : a ≠ f k := fun e => by
            subst e
            have h1 := HLA.out.symm.trans HC.out.1
            injection h1 with h1
            subst h1
            have h2 := HU.out.symm.trans HC.out.2.1
            injection h2 with h2
            exact hcu h2
          clear hcu
          go_wp2
          go_big_quiet (fail)
          go_wp2
          go_roundw
          case rel => exact ⟨a + 1, by omega, by go_num, below_drewN HC2.out _⟩
          case measure => first | (simp [intOf]; done) | (simp [intOf]; omega)
    · obtain rfl : k = m := by omega
      have jk : ¬ (k : Int) < (k : Int) := by omega
      go_wp2
      go_ret
      exact ⟨rfl, HB.out⟩
end Go.Proofs.Ytaenafcecfdffaa
/-
  Contracts of chapter 16: torchonref15's step, run, check.
-/
namespace Go.Proofs.Ytaenafcecfdffaa
open Go.RowKit
def stepOf (x : Wk) : Wk := if x.kind = 2 then ⟨3, x.at_, ⟨#[]⟩⟩ else ⟨2, x.at_, x.word⟩
set_option maxRecDepth 100000 in
set_option maxHeartbeats 400000 in
theorem step15 (kd at_ : Int) (wd : ByteArray) (w : World) : Calls Try.prog 65 #[.agg #[.int .i64 kd, .int .i64 at_, .string wd]] w fun e w' => e = .returned (.agg #[.int .i64 (stepOf ⟨kd, at_, wd⟩).kind, .int .i64 (stepOf ⟨kd, at_, wd⟩).at_, .string (stepOf ⟨kd, at_, wd⟩).word]) ∧ Below w.heap.size w w' := by
  by_cases h : kd = 2
  · subst h
    go_enter Try.func65, Try.ntmps65
    go_wp2
    refine post_cell (cs := [.int .i64 3, .int .i64 at_, .string ⟨#[]⟩]) (g := w.heap.size + 1) (t := 35) ?_ rfl rfl rfl Try.underlying35 (by kernel_rfl) ⟨rfl, by go_grown⟩
    have := Has.new (w := w.alloc (.cells #[.int .i64 2, .int .i64 at_, .string wd] 86)) (t := 35) (cs := [.int .i64 3, .int .i64 at_, .string ⟨#[]⟩]) rfl
    rw [World.size_alloc] at this
    exact this
  · have e : stepOf ⟨kd, at_, wd⟩ = ⟨2, at_, wd⟩ := if_neg h
    have hk : (kd == 2) = false := by simpa using h
    rw [e]
    clear e h
    go_enter Try.func65, Try.ntmps65
    go_wp2
    refine post_cell (cs := [.int .i64 2, .int .i64 at_, .string wd]) (g := w.heap.size + 1) (t := 35) ?_ rfl rfl rfl Try.underlying35 (by kernel_rfl) ⟨rfl, by go_grown⟩
    have := Has.new (w := w.alloc (.cells #[.int .i64 kd, .int .i64 at_, .string wd] 86)) (t := 35) (cs := [.int .i64 2, .int .i64 at_, .string wd]) rfl
    rw [World.size_alloc] at this
    exact this
/-- how many works are in reach, one after the other -/
def runL (h s : Int) : List Wk → Nat
  | [] => 0
  | x :: l => if heldB h s x.at_ then 1 + runL h s l else 0
theorem drop_cons {α : Type} {l : List α} {k : Nat} {x : α} (h : l[k]? = some x) : l.drop k = x :: l.drop (k + 1) := List.drop_eq_getElem?_toList_append.trans (by rw [h]; rfl)
set_option maxRecDepth 100000 in
set_option maxHeartbeats 2000000 in
theorem run15 (p : Int) (A : Option Addr) (n c : Nat) (ws : List Wk) (f : Nat) (h s : Int) (w : World) (hw : RdW w w.heap.size A ws) (hl : ws.length = n) (hn : n ≤ 400) (hs : 0 ≤ s ∧ s ≤ 8) (hh : h ≤ 1000) (ha : ∀ x ∈ ws, -1000 ≤ x.at_ ∧ x.at_ ≤ 1000) (hf : f ≤ n) :
    Calls Try.prog 64 #[.agg #[.int .i64 p, .slice A n c], .int .i64 (f : Int), .int .i64 h, .int .i64 s] w fun e w' => e = .returned (.int .i64 ((runL h s (ws.drop f) : Nat) : Int)) ∧ Below w.heap.size w w' := by
  have HW := Lib.hid hw; clear hw
  have HL := Lib.hid hl; clear hl
  have HA := Lib.hid ha; clear ha
  have K0 := Lib.hid (Has.new (w := w) (t := 24) (cs := [.int .i64 p, .slice A n c]) rfl)
  go_enter Try.func64, Try.ntmps64
  go_wp2
  go_loopw [9, 10] (fun v i wr => ∃ (j : Nat), f + j ≤ n ∧ i = .int .i64 ((f + j : Nat) : Int) ∧ v = .int .i64 (j : Int) ∧ Hid (j + runL h s (ws.drop (f + j)) = runL h s (ws.drop f)) ∧ wr = w.alloc (.cells #[.int .i64 p, .slice A n c] 24)) (fun _ i _ => n - (intOf i).toNat)
  case atStart => exact ⟨0, hf, rfl, rfl, by show _ = _; simp, rfl⟩
  case round =>
    obtain ⟨j, hj, rfl, rfl, HJ, rfl⟩ := hrel
    obtain ⟨i, hi⟩ : ∃ i, i = f + j := ⟨_, rfl⟩
    rw [← hi] at hj HJ ⊢
    have HI := Lib.hid hi
    clear hi
    have i1 : IntKind.i64.wrap ((j : Int) + 1) = (j : Int) + 1 := IntWalk.i64_in _ (by have := HI.out; omega)
    by_cases hlt : i < n
    · have jk : (i : Int) < (n : Int) := by omega
      obtain ⟨x, hx⟩ := get_of_lt (l := ws) (k := i) (by rw [HL.out]; exact hlt)
      obtain ⟨b, o, hA, hb, _, c1, _⟩ := (HW.out.up ((Below.refl w.heap.size w).alloc (Nat.le_refl _) (.cells #[.int .i64 p, .slice A n c] 24))) i x hx
      subst hA
      have hab := HA.out x (mem_of_get hx)
      have HD := Lib.hid (drop_cons hx)
      have CH := Lib.hid (held15 h s x.at_ (w.alloc (.cells #[.int .i64 p, .slice (some ⟨b, o, none⟩) n c] 24)) hs hab hh)
      clear hx
      go_wp2_with fail
      refine CH.out.mono ?_
      rintro e w1 ⟨rfl, rfl⟩
      cases hheld : heldB h s x.at_ with
      | true =>
        have HJ2 : Hid (j + 1 + runL h s (ws.drop (i + 1)) = runL h s (ws.drop f)) := by
          show _ = _
          rw [← HJ.out, HD.out, show runL h s (x :: ws.drop (i + 1)) = 1 + runL h s (ws.drop (i + 1)) from if_pos hheld]
          omega
        go_wp2
        go_roundw
        case rel => exact ⟨j + 1, by have := HI.out; omega, by have := HI.out; go_num, by go_num, by have e := HI.out; show _ = _; rw [show f + (j + 1) = i + 1 by omega]; exact HJ2.out, by first | rfl | trivial⟩
        case measure => first | (simp [intOf]; done) | (simp [intOf]; omega)
      | false =>
        have HJ2 : Hid (runL h s (ws.drop f) = j) := by
          show _ = _
          rw [← HJ.out, HD.out, show runL h s (x :: ws.drop (i + 1)) = 0 from if_neg (by rw [hheld]; decide)]; rfl
        go_wp2
        go_ret
        rw [HJ2.out]
        exact ⟨rfl, by go_grown⟩
    · have HJ2 : Hid (runL h s (ws.drop f) = j) := by
        show _ = _
        rw [← HJ.out, List.drop_of_length_le (by rw [HL.out]; omega)]; rfl
      have jk : ¬ (i : Int) < (n : Int) := by omega
      go_wp2
      go_ret
      rw [HJ2.out]
      exact ⟨rfl, by go_grown⟩
end Go.Proofs.Ytaenafcecfdffaa
