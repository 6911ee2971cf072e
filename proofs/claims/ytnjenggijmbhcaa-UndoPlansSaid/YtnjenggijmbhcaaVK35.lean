/-
  The walk of undo.plan.
-/
import Derived.Test.YtnjenggijmbhcaaVK9
import Derived.Test.YtnjenggijmbhcaaVK11
import Derived.Test.YtnjenggijmbhcaaVK23
import Derived.Test.YtnjenggijmbhcaaVK33
import Derived.Test.YtnjenggijmbhcaaVK34
namespace Go.Proofs.Ytnjenggijmbhcaa
open Go.RowKit
attribute [local go_sem] Oper.semAt_some
def RetPl (U R : List Wk) (err : Int) (w : World) (e : Ending) (w' : World) : Prop := ∃ A1 n1 c1 A2 n2 c2, e = .returned (.tuple #[.slice A1 n1 c1, .slice A2 n2 c2, .int .i64 err]) ∧ RdW w' w'.heap.size A1 U ∧ U.length = n1 ∧ n1 ≤ c1 ∧ c1 ≤ 9223372036854775807 ∧ RdW w' w'.heap.size A2 R ∧ R.length = n2 ∧ n2 ≤ c2 ∧ c2 ≤ 9223372036854775807 ∧ Below w.heap.size w w'
theorem postM_mark3 {P : Program} {fn : Func} {R : Ending → World → Prop} {a : Act} {w : World} {t u v : Tmp} {D : Nat} {x y z : Value} (hres : fn.results = #[.tmp t, .tmp u, .tmp v])
    (hx : a.tmps.getD t undef = x) (hy : a.tmps.getD u undef = y) (hz : a.tmps.getD v undef = z) (hd : a.defers = [{ target := .collected D, args := #[] }]) (hD : w.heap[D]? = some (.deferred (some [])))
    (hR : R (.returned (.tuple #[x, y, z])) (w.putObj D (.deferred none))) : bodyPostM Fence.wide 0 P fn R .ret a w := by
  have e3 : ∀ W, (results fn a.tmps).run P W = .ok (.tuple #[a.tmps.getD t undef, a.tmps.getD u undef, a.tmps.getD v undef]) W := fun W => by simp [results, hres]
  show LeavesInM Fence.wide 0 P fn a.tmps R a.defers .returning w
  rw [hd]
  refine ⟨by simp, .inl ⟨_, _, rfl, run_takeDeferred hD, ?_⟩⟩
  exact ⟨.tuple #[x, y, z], by rw [e3, hx, hy, hz], hR⟩
theorem RdW.path {w w' : World} {B B' : Nat} {A : Option Addr} {ws : List Wk} (h : RdW w B A ws) (hp : ∀ r, r < B → w'.heap[r]? = w.heap[r]?) (hB : B ≤ B') : RdW w' B' A ws := fun k x hx => by
  obtain ⟨b, o, h1, h2, h3, h4, h5⟩ := h k x hx
  have e : ∀ i, w'.cell? ⟨b, i, none⟩ = w.cell? ⟨b, i, none⟩ := fun i => World.cell?_of_block (hp b h2)
  exact ⟨b, o, h1, Nat.lt_of_lt_of_le h2 hB, (e _).trans h3, (e _).trans h4, (e _).trans h5⟩
theorem StayW.low {w0 B C : Nat} {w1 V : World} (h : StayW w0 B w1 V) (h1 : C ≤ w1.heap.size) (h2 : C ≤ B) (h3 : C ≤ w0) : Below C w1 V :=
  ⟨h.os, h.tape, h.output, h.size, fun r hr => h.same r (by omega) (by omega) (.inl (by omega))⟩
theorem below_putD {C D : Nat} {w V : World} (h : Below C w V) (hD : C ≤ D) (o : Obj) : Below C w (V.putObj D o) :=
  ⟨h.os, h.tape, h.output, by show _ ≤ (V.putObj D o).heap.size; simp [World.putObj]; exact h.size, fun r hr => (World.putObj_heap_other (by omega)).trans (h.block r hr)⟩
theorem quickZ (p s : Int) (A : Option Addr) (n c : Nat) (ws : List Wk) (w : World) (hw : RdW w w.heap.size A ws) (hl : ws.length = n) (hok : SOk p ws) (hsp : spB p s = true) :
    Calls Try.prog 76 #[.agg #[.int .i64 p, .slice A n c], .int .i64 s] w (RetQE (quickP p.toNat s.toNat ws) 0 w) := by
  obtain ⟨h2, h8, hp⟩ := spB_iff hsp
  obtain ⟨p, rfl⟩ : ∃ q : Nat, p = (q : Int) := ⟨p.toNat, by omega⟩
  obtain ⟨s, rfl⟩ : ∃ q : Nat, s = (q : Int) := ⟨s.toNat, by omega⟩
  have hn : n ≤ 400 := by have := hok.len; omega
  exact quickY p s A n c ws w (by omega) hw hl (fun x hx => by have := hok.short x hx; omega) (by unfold qckE; rw [hok.zero, if_pos rfl, hsp]; rfl)
theorem quickF (p s : Int) (A : Option Addr) (n c : Nat) (ws : List Wk) (w : World) (hw : RdW w w.heap.size A ws) (hl : ws.length = n) (hok : SOk p ws) (hsp : spB p s = false) :
    Calls Try.prog 76 #[.agg #[.int .i64 p, .slice A n c], .int .i64 s] w (RetQE [] 7 w) := by
  have hn : n ≤ 400 := by have := hok.len; omega
  have e : qckE p s ws = 7 := by unfold qckE; rw [hok.zero, if_pos rfl, hsp]; rfl
  have := quickN p s A n c ws w (by omega) hw hl (fun x hx => by have := hok.short x hx; omega) (by rw [e]; decide)
  rwa [e] at this
set_option maxRecDepth 100000 in
set_option maxHeartbeats 20000000 in
theorem planC (sb at_ n c b : Nat) (p span k : Int) (s : ByteArray) (A : Option Addr) (ws : List Wk) (w : World) (hS : Has w sb 24 [.int .i64 p, .slice A n c]) (hw : RdW w w.heap.size A ws) (hl : ws.length = n) (hnc : n ≤ c) (hcm : c ≤ 9223372036854775807)
    (hok : SOk p ws) (hob : SOk p [⟨k, (b : Int), s⟩]) (hat : at_ < n) :
    Calls Try.prog 50 #[.pointer (some ⟨sb, 0, none⟩), .int .i64 span, .int .i64 (at_ : Int), .agg #[.int .i64 k, .int .i64 (b : Int), .string s]] w
      (if spB p span = true then RetPl (quickP p.toNat span.toNat (planU ws (abU ws at_ b n))) (quickP p.toNat span.toNat (planR ⟨k, (b : Int), s⟩ ws (abU ws at_ b n))) 0 w else RetPl [] [] 7 w) := by
  have hn4 : n ≤ 400 := by have := hok.len; omega
  have hb22 : b ≤ 22 := by have := valid_at hob ⟨k, (b : Int), s⟩ (by simp); simp at this; omega
  have CA := Lib.hid (fun (W : World) (hb : Below w.heap.size w W) => unAbove k s A b n c at_ sb ws W (hw.up hb) hl hat hn4 hnc hcm hb22 (fun x hx => valid_at hok x hx) (Nat.lt_of_lt_of_le hS.lt hb.size) ((hS.below hb hS.lt).cell 1))
  obtain ⟨L, hL⟩ : ∃ L, L = abU ws at_ b n := ⟨_, rfl⟩
  rw [← hL] at CA ⊢
  obtain ⟨RET, hRET⟩ : ∃ R : Ending → World → Prop, R = (if spB p span = true then RetPl (quickP p.toNat span.toNat (planU ws L)) (quickP p.toNat span.toNat (planR ⟨k, (b : Int), s⟩ ws L)) 0 w else RetPl [] [] 7 w) := ⟨_, rfl⟩
  rw [← hRET]
  have HRET := Lib.hid hRET
  clear hRET
  have hLlt : ∀ j ∈ L, j < ws.length := fun j hj => by rw [hL] at hj; have := abU_lt ws at_ b n (by omega) j hj; omega
  have hLlen : L.length ≤ 400 := by rw [hL]; have := abU_len ws at_ b n (by omega); omega
  have hLpos : 0 < L.length := by rw [hL]; exact abU_pos _ _ _ _
  have HLI := Lib.hid (And.intro hLlt (And.intro hLlen hLpos))
  have HW := Lib.hid hw
  have HS := Lib.hid hS
  have HL := Lib.hid hl
  have HOK := Lib.hid (And.intro hok hob)
  have c0 : w.cell? ⟨sb, 0, none⟩ = some (.int .i64 p) := hS.cell 0
  have q0 := hS.lt
  clear hL hLlt hLlen hLpos hw hS hl hok hob hnc hcm hat hb22
  refine (callsIn_wide (n := 0)).1 (callsIn_of_wp_marks Try.func50 rfl trivial ?_)
  simp only [Try.ntmps50, List.size_toArray, List.length_cons, List.length_nil, Nat.reduceAdd, Nat.reduceSub, Array.replicate_succ, Array.replicate_zero, List.push_toArray, List.append_toArray, List.nil_append, List.cons_append]
  refine wpIn_wide.2 ?_
  go_wp2_with fail
  have B1 : Below w.heap.size w (w.alloc (.cells #[.int .i64 k, .int .i64 (b : Int), .string s] 26)) := by go_grown
  refine (CA.out _ B1).mono ?_
  rintro e w2 ⟨A9, n9, c9, rfl, r9, l9, hnc9, hcm9, hb2⟩
  have hn9 : L.length = n9 := by rw [← l9, List.length_map]
  have S2 := Lib.hid ((HS.out.below B1 HS.out.lt).below hb2 (Nat.lt_of_lt_of_le HS.out.lt B1.size))
  have BY := Lib.hid (Has.below (Has.new (w := w) (arr := #[.int .i64 k, .int .i64 (b : Int), .string s]) (t := 26) (cs := [.int .i64 k, .int .i64 (b : Int), .string s]) rfl) hb2 (by simp))
  have HB2 := Lib.hid (bvia B1 hb2)
  have R9 := Lib.hid r9
  have HC9 := Lib.hid (And.intro hnc9 hcm9)
  have d0 : w2.cell? ⟨sb, 0, none⟩ = some (.int .i64 p) := S2.out.cell 0
  have e0 := S2.out.lt
  have by0 : w.heap.size < w2.heap.size := BY.out.lt
  clear B1 hb2 r9 hnc9 hcm9 c0 q0 CA l9
  dsimp only
  go_wp2_with (first | (go_at_call 73; refine (backward73 A9 n9 c9 _).mono ?_; rintro e w4 ⟨rfl, rfl⟩) | (go_at_call 72; refine (works72 sb _ _ _).mono ?_; rintro e w5 ⟨rfl, hw5⟩) | fail)
  have e5 : w5 = ((((w2.alloc (.cells #[.int .i64 p, .slice none 0 0] 24)).alloc (.cells #[.slice A9 n9 c9] 29)).alloc (.cells #[.pointer (some ⟨sb, 0, none⟩)] 70)).alloc (.cells #[.func (.func 99) #[] #[.pointer (some ⟨w2.heap.size + 1, 0, none⟩)]] 114)) := by rw [hw5]
  have KB : Has w5 w2.heap.size 24 [.int .i64 p, .slice none 0 0] := by rw [e5]; exact (((Has.new rfl).alloc _).alloc _).alloc _
  have KX : Has w5 (w2.heap.size + 1) 29 [.slice A9 n9 c9] := by
    have h := Has.new (w := (w2.alloc (.cells #[.int .i64 p, .slice none 0 0] 24))) (arr := #[.slice A9 n9 c9]) (t := 29) (cs := [.slice A9 n9 c9]) rfl
    rw [World.size_alloc] at h
    rw [e5]; exact (h.alloc _).alloc _
  have K2 : Has w5 (w2.heap.size + 2) 70 [.pointer (some ⟨sb, 0, none⟩)] := by
    have h := Has.new (w := ((w2.alloc (.cells #[.int .i64 p, .slice none 0 0] 24)).alloc (.cells #[.slice A9 n9 c9] 29))) (arr := #[.pointer (some ⟨sb, 0, none⟩)]) (t := 70) (cs := [.pointer (some ⟨sb, 0, none⟩)]) rfl
    simp only [World.size_alloc] at h
    rw [e5]; exact h.alloc _
  have K3 : Has w5 (w2.heap.size + 3) 114 [.func (.func 99) #[] #[.pointer (some ⟨w2.heap.size + 1, 0, none⟩)]] := by
    have h := Has.new (w := (((w2.alloc (.cells #[.int .i64 p, .slice none 0 0] 24)).alloc (.cells #[.slice A9 n9 c9] 29)).alloc (.cells #[.pointer (some ⟨sb, 0, none⟩)] 70))) (arr := #[.func (.func 99) #[] #[.pointer (some ⟨w2.heap.size + 1, 0, none⟩)]]) (t := 114) (cs := [.func (.func 99) #[] #[.pointer (some ⟨w2.heap.size + 1, 0, none⟩)]]) rfl
    simp only [World.size_alloc] at h
    rw [e5]; exact h
  have D5 : Below w2.heap.size w2 w5 := by rw [e5]; go_grown
  have z5 : w5.heap.size = w2.heap.size + 4 := by rw [e5]; simp
  rw [← e5]
  clear hw5 e5
  try simp only [World.size_alloc]
  obtain ⟨bk, hbk⟩ : ∃ bk, bk = w2.heap.size := ⟨_, rfl⟩
  rw [← hbk] at KB KX K2 K3 D5 z5 by0 e0
  have HBK := Lib.hid hbk
  have R5 : RdI w5 bk A9 (L.map (fun (j : Nat) => (j : Int))) := by
    have := R9.out.below (B' := w2.heap.size) (by rw [← hbk]; exact D5) (Nat.le_refl _)
    rwa [← hbk] at this
  have W5 : RdW w5 bk A ws := by
    have h1 := HW.out.up HB2.out
    rw [← hbk] at h1
    exact h1.below D5 (Nat.le_refl _)
  have S5 : Has w5 sb 24 [.int .i64 p, .slice A n c] := S2.out.below D5 e0
  simp only [← hbk]
  clear hbk
  obtain ⟨lst, hlst⟩ : ∃ l, l = (bkN L n9).map fun x => wkA ws x.2 := ⟨_, rfl⟩
  have hll : lst.length ≤ 400 := by rw [hlst, List.length_map, ← hn9]; unfold bkN; rw [List.length_map, List.length_range]; exact HLI.out.2.1
  have hseq : SeqW 98 #[.pointer (some ⟨bk + 3, 0, none⟩), .pointer (some ⟨bk + 2, 0, none⟩)] bk bk w5 lst := by
    obtain ⟨hL1, hL2, hL3⟩ := HLI.out
    obtain ⟨j0, hj0⟩ := get_of_lt (l := L) (k := 0) hL3
    obtain ⟨bq, oq, hA9, hbq, _⟩ := R5 0 (j0 : Int) (by rw [List.getElem?_map, hj0]; rfl)
    rw [hlst]
    refine worksIt 99 #[.pointer (some ⟨bk + 1, 0, none⟩)] (bk + 3) (bk + 2) sb bk bk n c p A ws (bkN L n9) w5 Try.call99 (bkIter (bk + 1) bq oq n9 c9 bk bk A9 L w5 hn9 (by omega) (by omega) hbq (by omega) KX (fun _ => hA9) (fun j x hx => ?_)) K3 K2 S5 W5 (by omega) (by omega) (by omega) (fun b' o' hA => ?_) (fun x hx => hL1 _ (mem_bkN (by rw [hn9]; exact hx))) HL.out
    · obtain ⟨b', o', e, _, c0⟩ := R5 j (x : Int) (by rw [List.getElem?_map, hx]; rfl)
      rw [hA9] at e; injection e with e; injection e with e1 e2
      subst e1 e2
      exact c0
    · obtain ⟨y, hy⟩ := get_of_lt (hL1 j0 (List.mem_of_getElem? hj0))
      obtain ⟨b'', o'', e, h1, _⟩ := W5 j0 y hy
      rw [hA] at e; injection e with e; injection e with e1 _
      omega
  have OI : ∀ hi : Nat, OwnFrom w5.heap.size ((fun (_ : Nat) (pre : List Wk) V => (∃ A' c', Has V bk 24 [.int .i64 p, .slice A' pre.length c'] ∧ V.ownsRow w5.heap.size 26 3 (.slice A' pre.length c') pre.length (wksCells (pre.map undoW))) ∧ StayW w5.heap.size bk w5 V) hi) := fun _ pre V V' row ⟨⟨A', c', h1, h2⟩, h3⟩ hg hr => by
    have hBl : bk < V.heap.size := h1.lt
    exact ⟨⟨A', c', h1.same (hg.block bk hBl (fun e => by have := (hr bk e.symm).1; omega)), own_deadW h2 hg (fun r e => (hr r e).2)⟩, h3.far hg (fun r e => (hr r e).1)⟩
  refine wpIn_wide.1 (range_lawK (n := 0) (gf := 98) (lb := #[.pointer (some ⟨bk + 3, 0, none⟩), .pointer (some ⟨bk + 2, 0, none⟩)]) rfl Try.call98 encW (fun _ => rfl) (fun (_ : Nat) (pre : List Wk) V => (∃ A' c', Has V bk 24 [.int .i64 p, .slice A' pre.length c'] ∧ V.ownsRow w5.heap.size 26 3 (.slice A' pre.length c') pre.length (wksCells (pre.map undoW))) ∧ StayW w5.heap.size bk w5 V) (fun ys => ys = lst) (fun _ pre x _ => (pre ++ [x]) <+: lst) (fun l' _ X Y => KeepW bk bk l' X Y) (fun _ _ _ _ _ h k => h.trans k) (fun _ _ X o o' h ho => KeepW.put X o o' h ho) OI ⟨⟨none, 0, KB, World.ownsRow_nil _ _ _ _⟩, StayW.refl _ _ _⟩ ?iter ?rnd ?done)
  case iter =>
    intro l' d' r0 V hd1 hd2 hKB hMid hY'
    have hst := hMid.inv.2
    obtain ⟨A8, c8, hb8, _⟩ := hMid.inv.1
    have hag : Agree bk bk w5 V := ⟨by omega, hst.size, fun r h1 h2 _ => hst.same r h1 h2 (.inl h1), ⟨_, hb8, rfl⟩⟩
    exact callsIn_wide.2 ((hseq _ l' d' r0 V (OI 0) (by omega) (Array.getElem?_eq_some_iff.1 hMid.rec_).1 hag hMid (fun pre x W1 hp _ hm => hY' 0 pre x W1 hp (Nat.zero_le _) hm)).mono (fun e W' ⟨hv, hm, _⟩ => ⟨hv, 0, lst, rfl, hm⟩))
  case rnd =>
    rintro hi l' pre x V o hok hl' htop hinv hVl ho
    have hpl : pre.length ≤ lst.length := by have := hok.length_le; simp at this; omega
    have hxs : x.word.size ≤ 9223372036854775807 := by
      have hm : x ∈ lst := hok.subset (List.mem_append_right _ (List.mem_singleton.2 rfl))
      rw [hlst] at hm
      obtain ⟨y, hy, rfl⟩ := List.mem_map.1 hm
      have := HOK.out.1.short _ (wkA_mem (HLI.out.1 _ (mem_bkN (by rw [hn9]; exact hy))))
      omega
    have hll' := (Array.getElem?_eq_some_iff.1 hVl).1
    dsimp only [encW]
    gi_wp2
    have hVB := hinv.2.size
    refine ⟨KeepsOthers.alloc _ _, KeepW.of_alloc _ _ _ _ _, fun o' ho' => ?_⟩
    have hV1 : (V.alloc (.cells #[.int .i64 x.kind, .int .i64 x.at_, .string x.word] 26)).heap[l']? = some o := (Below.heap_alloc _ _ l' hll').trans hVl
    have hinv1 := (OI 0).putObj o' ((OI 0).alloc (.cells #[.int .i64 x.kind, .int .i64 x.at_, .string x.word] 26) hinv) (by omega) hV1 ho
    have N1 : Has (V.alloc (.cells #[.int .i64 x.kind, .int .i64 x.at_, .string x.word] 26)) V.heap.size 26 [.int .i64 x.kind, .int .i64 x.at_, .string x.word] := Has.new rfl
    obtain ⟨⟨X, cx, i1, i2⟩, _⟩ := hinv
    have j1' := (i1.alloc (.cells #[.int .i64 x.kind, .int .i64 x.at_, .string x.word] 26)).same (w' := (V.alloc (.cells #[.int .i64 x.kind, .int .i64 x.at_, .string x.word] 26)).putObj l' o') (World.putObj_heap_other (by omega))
    have j2' := own_deadW (i2.alloc (.cells #[.int .i64 x.kind, .int .i64 x.at_, .string x.word] 26)) (grownBy_putObj' _ l' o') (fun r e => by cases e; exact ⟨o, hV1, ho⟩)
    have HRB := Lib.hid (fun r hr => (i2.lt r hr).2)
    obtain ⟨YY, hYY⟩ : ∃ YY, YY = (V.alloc (.cells #[.int .i64 x.kind, .int .i64 x.at_, .string x.word] 26)).putObj l' o' := ⟨_, rfl⟩
    have N2 : Has YY V.heap.size 26 [.int .i64 x.kind, .int .i64 x.at_, .string x.word] := by rw [hYY]; exact N1.same (World.putObj_heap_other (by omega))
    rw [← hYY] at hinv1 j1' j2' ⊢
    obtain ⟨_, j3⟩ := hinv1
    have HJ1 := Lib.hid j1'
    have HJ2 := Lib.hid j2'
    have HJ3 := Lib.hid j3
    have HN2 := Lib.hid N2
    have hzY : w5.heap.size ≤ YY.heap.size := j3.size
    obtain ⟨bw, hbw⟩ : ∃ bw, bw = V.heap.size := ⟨_, rfl⟩
    simp only [← hbw] at HN2 HRB ⊢
    have hbkw : bk < bw := by rw [hbw]; omega
    have hm4 : pre.length + 1 ≤ 1000000000 := by omega
    have CU := Lib.hid (fun W => unUndoing x.kind x.at_ x.word W hxs)
    obtain ⟨m, hm⟩ : ∃ m, m = pre.length := ⟨_, rfl⟩
    rw [← hm] at HJ1 HJ2 HRB hm4
    have HMM := Lib.hid hm
    have HFc := Lib.hid (fun (Z : World) (hZ : Below YY.heap.size YY Z) => (⟨(HN2.out.below hZ HN2.out.lt).cell 0, (HN2.out.below hZ HN2.out.lt).cell 1, (HN2.out.below hZ HN2.out.lt).cell 2⟩ : Z.cell? ⟨bw, 0, none⟩ = some (.int .i64 x.kind) ∧ Z.cell? ⟨bw, 1, none⟩ = some (.int .i64 x.at_) ∧ Z.cell? ⟨bw, 2, none⟩ = some (.string x.word)))
    have zf := HFc.out YY.drew (Below.refl _ _).drew
    have zb : YY.drew.cell? ⟨bk, 1, none⟩ = some (.slice X m cx) := HJ1.out.cell 1
    clear hYY N1 N2 j1' j2' j3 i1 i2 hVl hV1 hbw hm
    gi_wp2
    refine wpIn_region_B (fun b w' => w'.cell? ⟨bw, 0, none⟩ = some (.int .i64 x.kind) ∧ w'.cell? ⟨bw, 1, none⟩ = some (.int .i64 x.at_) ∧ w'.cell? ⟨bw, 2, none⟩ = some (.string x.word) ∧ (b = false → w'.cell? ⟨bk, 1, none⟩ = some (.slice X m cx))) 7 (by kernel_rfl) (by kernel_rfl) (fun h2 => by obtain ⟨_, _, h2⟩ := h2; exact h2) ?_
    have hSSp : (fun b w' => w'.cell? ⟨bw, 0, none⟩ = some (.int .i64 x.kind) ∧ w'.cell? ⟨bw, 1, none⟩ = some (.int .i64 x.at_) ∧ w'.cell? ⟨bw, 2, none⟩ = some (.string x.word) ∧ (b = false → w'.cell? ⟨bk, 1, none⟩ = some (.slice X m cx))) false (YY.drew) := ⟨zf.1, zf.2.1, zf.2.2, fun _ => zb⟩
    refine wpAnyB_take (i := 0) (oi := _) (v := ?vvp1) (fun w' => w'.cell? ⟨bw, 0, none⟩ = some (.int .i64 x.kind) ∧ w'.cell? ⟨bw, 1, none⟩ = some (.int .i64 x.at_) ∧ w'.cell? ⟨bw, 2, none⟩ = some (.string x.word)) rfl (by kernel_rfl) (by kernel_rfl) (by kernel_rfl) (by kernel_rfl) (by rfl) (fun _ h => ⟨h.1, h.2.1, h.2.2.1⟩) (.inl fun _ h => ⟨h.1, h.2.1, h.2.2.1⟩) (fun _ _ _ h => h) (.inl ⟨by rfl, ?hyp1⟩) hSSp ?_
    case hyp1 =>
      intro w' hSw
      try dsimp only at hSw
      go_simp
      all_goals with_reducible rfl
    try simp only [Act.put, List.setIfInBounds_toArray]
    refine wpAnyB_take (i := 1) (oi := _) (v := ?vvp2) (fun w' => w'.cell? ⟨bw, 0, none⟩ = some (.int .i64 x.kind) ∧ w'.cell? ⟨bw, 1, none⟩ = some (.int .i64 x.at_) ∧ w'.cell? ⟨bw, 2, none⟩ = some (.string x.word) ∧ w'.cell? ⟨bk, 1, none⟩ = some (.slice X m cx)) rfl (by kernel_rfl) (by kernel_rfl) (by kernel_rfl) (by kernel_rfl) (by rfl) (fun _ h => ⟨h.1, h.2.1, h.2.2.1, h.2.2.2 rfl⟩) (.inr (by kernel_rfl)) (fun _ _ _ h => h) (.inl ⟨by rfl, ?hyp2⟩) hSSp ?_
    case hyp2 =>
      intro w' hSw
      try dsimp only at hSw
      go_simp
      all_goals with_reducible rfl
    try simp only [Act.put]
    refine wpAnyB_take (i := 2) (oi := _) (v := ?vvp3) (fun w' => w'.cell? ⟨bw, 0, none⟩ = some (.int .i64 x.kind) ∧ w'.cell? ⟨bw, 1, none⟩ = some (.int .i64 x.at_) ∧ w'.cell? ⟨bw, 2, none⟩ = some (.string x.word)) rfl (by kernel_rfl) (by kernel_rfl) (by kernel_rfl) (by kernel_rfl) (by rfl) (fun _ h => ⟨h.1, h.2.1, h.2.2.1⟩) (.inl fun _ h => ⟨h.1, h.2.1, h.2.2.1⟩) (fun _ _ _ h => h) (.inl ⟨by rfl, ?hyp3⟩) hSSp ?_
    case hyp3 =>
      intro w' hSw
      try dsimp only at hSw
      go_simp
      all_goals with_reducible rfl
    try simp only [Act.put]
    refine wpAnyB_one (i := 3) false rfl (by kernel_rfl) (by kernel_rfl) ?_
    intro KK hKK
    go_simp
    refine (CU.out _).mono ?_
    rintro e w7 ⟨rfl, hb7⟩
    dsimp only
    have D7 : Below YY.heap.size YY w7 := (Below.refl YY.heap.size YY).drew.trans hb7
    have K7 := HJ1.out.drew.below hb7 HJ1.out.lt
    have O7 := own_below (w := YY.drew) HJ2.out hb7
    have f7 := HFc.out w7 D7
    have n7 : w5.heap.size ≤ w7.heap.size := Nat.le_trans hzY D7.size
    clear hb7
    refine hKK.out _ _ ⟨f7.1, f7.2.1, f7.2.2, fun _ => K7.cell 1⟩ ?_
    clear hKK KK
    try simp only [Act.put, List.setIfInBounds_toArray, List.set_cons_zero, List.set_cons_succ]
    refine wpAnyB_one (i := 4) false rfl (by kernel_rfl) (by kernel_rfl) ?_
    intro KK hKK
    go_simp
    have D8 := D7.alloc D7.size (.cells #[.int .i64 x.kind, .int .i64 x.at_, .string (invW x.word)] 26)
    have K8 := K7.alloc (.cells #[.int .i64 x.kind, .int .i64 x.at_, .string (invW x.word)] 26)
    have O8 := O7.alloc (.cells #[.int .i64 x.kind, .int .i64 x.at_, .string (invW x.word)] 26)
    have f8 := HFc.out _ D8
    have news8 := news_wk w7 (undoW x) 26
    have n8 : w5.heap.size ≤ (w7.alloc (.cells #[.int .i64 x.kind, .int .i64 x.at_, .string (invW x.word)] 26)).heap.size := Nat.le_trans hzY D8.size
    refine hKK.out _ _ ⟨f8.1, f8.2.1, f8.2.2, fun _ => K8.cell 1⟩ ?_
    clear hKK KK
    try simp only [Act.put, List.setIfInBounds_toArray, List.set_cons_zero, List.set_cons_succ]
    refine wpAnyB_one (i := 5) false rfl (by kernel_rfl) (by kernel_rfl) ?_
    intro KK hKK
    refine step_appN rfl (.tmp 30) (.tmp 33) _ rfl w5.heap.size 26 (.agg #[.int .i64 0, .int .i64 0, .string ⟨#[]⟩]) 3 32 Try.underlying22 infoWk rfl (by omega) (by omega) (.slice X m cx) m (wksCells (pre.map undoW)) rfl O8 ⟨w7.heap.size, 0, none⟩ 1 1 (wkCells (undoW x)) rfl rfl (fun j u hu => by rw [Addr.add_lit, Nat.zero_add]; exact news8 j u hu) (one_wk _) hm4 n8 ?_
    intro v9 w9 ho9 hg9 _ _
    obtain ⟨A9', c9', hv9⟩ := own_form ho9
    subst hv9
    have K9 := K8.same (hg9.block bk K8.lt (fun e => (K8.ne_own O8 (by decide)) e.symm))
    have N9 := ((HN2.out.below D7 HN2.out.lt).alloc (.cells #[.int .i64 x.kind, .int .i64 x.at_, .string (invW x.word)] 26)).same (hg9.block bw (Nat.lt_trans (HN2.out.below D7 HN2.out.lt).lt (by simp)) (fun e => by have := HRB.out bw e.symm; omega))
    have f9 : w9.cell? ⟨bw, 0, none⟩ = some (.int .i64 x.kind) ∧ w9.cell? ⟨bw, 1, none⟩ = some (.int .i64 x.at_) ∧ w9.cell? ⟨bw, 2, none⟩ = some (.string x.word) := ⟨N9.cell 0, N9.cell 1, N9.cell 2⟩
    refine hKK.out _ _ ⟨f9.1, f9.2.1, f9.2.2, fun _ => K9.cell 1⟩ ?_
    clear hKK KK
    try simp only [Act.put, List.setIfInBounds_toArray]
    refine wpAnyB_one (i := 6) false rfl (by kernel_rfl) (by kernel_rfl) ?_
    intro KK hKK
    go_simp
    refine hKK.out _ _ ⟨f9.1, f9.2.1, f9.2.2, fun _ => K9.cell 1⟩ ?_
    clear hKK KK
    try simp only [Act.put, List.setIfInBounds_toArray, List.set_cons_zero, List.set_cons_succ]
    refine wpAnyB_one (i := 7) true rfl (by kernel_rfl) (by kernel_rfl) ?_
    intro KK hKK
    have g0 := K9.cell 1
    have g1 := K9.free 1
    have g2 := K9.lt
    have hbne : bw ≠ bk := by clear g0 g1 g2; omega
    go_simp
    have N10 := N9.far hbne 1 (.slice A9' (m + 1) c9')
    have f10 : (w9.setCell ⟨bk, 1, none⟩ (.slice A9' (m + 1) c9')).cell? ⟨bw, 0, none⟩ = some (.int .i64 x.kind) ∧ (w9.setCell ⟨bk, 1, none⟩ (.slice A9' (m + 1) c9')).cell? ⟨bw, 1, none⟩ = some (.int .i64 x.at_) ∧ (w9.setCell ⟨bk, 1, none⟩ (.slice A9' (m + 1) c9')).cell? ⟨bw, 2, none⟩ = some (.string x.word) := ⟨N10.cell 0, N10.cell 1, N10.cell 2⟩
    refine hKK.out _ _ ⟨f10.1, f10.2.1, f10.2.2, fun hh => by cases hh⟩ ?_
    clear hKK KK
    try simp only [Act.put, List.setIfInBounds_toArray, List.set_cons_zero, List.set_cons_succ]
    refine wpAnyB_done (by kernel_rfl) (NoPanic.normal ?_) _
    gi_wp2
    have hsz8 : YY.heap.size ≤ w9.heap.size := by have h8 := D8.size; have h9 := hg9.size; omega
    have hsame : ∀ r, r < YY.heap.size → r ≠ bk → (Value.slice X m cx).ownBlock ≠ some r → (w9.setCell ⟨bk, 1, none⟩ (.slice A9' (m + 1) c9')).heap[r]? = YY.heap[r]? := fun r hr h1 h2 =>
      (Below.heap_setCell w9 ⟨bk, 1, none⟩ _ r h1).trans ((hg9.block r (Nat.lt_of_lt_of_le hr D8.size) (fun e => h2 e.symm)).trans (D8.block r hr))
    have hwork : ∀ r, (Value.slice X m cx).ownBlock = some r → w5.heap.size ≤ r ∧ ∃ cs, Has YY r 26 cs := fun r hr => ⟨(HJ2.out.lt r hr).1, own_cellsW HJ2.out hr⟩
    have hnot : ∀ r, (r < w5.heap.size ∨ ∀ cs fr, YY.heap[r]? ≠ some (.cells cs 26 fr)) → (Value.slice X m cx).ownBlock ≠ some r := fun r hx e => by
      obtain ⟨h1, cs, h2⟩ := hwork r e
      rcases hx with hx | hx
      · omega
      · exact hx _ _ h2
    have e9 : pre.length + 1 = m + 1 := by rw [HMM.out]
    rw [e9, ← z5]
    have hDz := D8.size
    have h9z := hg9.size
    refine ⟨⟨by simp [World.setCell]; exact hsz8, fun k o hk hc => ?_⟩, ⟨by simp [World.setCell]; exact hsz8, fun r h1 h2 h3 h4 => hsame r h1 h3 (hnot r (h4.imp (fun h => by omega) id)), fun o h1 h2 => ⟨_, K9.set 1 (.slice A9' (m + 1) c9'), rfl⟩⟩, ⟨A9', c9', K9.set 1 _, ?_⟩, ⟨?_, ?_, ?_, by simp [World.setCell]; have := HJ3.out.size; omega, fun r h1 h2 h3 => ?_⟩⟩
    · have hk2 := (Array.getElem?_eq_some_iff.1 hk).1
      refine (hsame k hk2 (fun e => ?_) (hnot k (.inr (fun cs fr e => by rw [hk] at e; injection e with e; rw [e] at hc; cases hc)))).trans hk
      have := HJ1.out
      unfold Has at this
      rw [e, this] at hk; injection hk with hk; rw [← hk] at hc; cases hc
    · rw [wksCells_app]
      exact (But.set bk w9 1 (.slice A9' (m + 1) c9')).own ho9 (K9.ne_own ho9 (by decide))
    · exact hg9.os.trans (D8.os.trans HJ3.out.os)
    · exact hg9.tape.trans (D8.tape.trans HJ3.out.tape)
    · exact hg9.output.trans (D8.output.trans HJ3.out.output)
    · have e1 := HJ3.out.same r h1 h2 h3
      exact (hsame r (Nat.lt_of_lt_of_le h1 HJ3.out.size) h2 (hnot r (h3.imp id (fun hn cs fr => by rw [e1]; exact hn cs fr)))).trans e1
  case done =>
    rintro D hi xs' V hD rfl ⟨⟨X, cx, j1, j2⟩, j3⟩ hDf
    have S6 : Has V sb 24 [.int .i64 p, .slice A n c] := S5.same (j3.same sb (by omega) (by omega) (.inl (by omega)))
    have BY5 := BY.out.below (by rw [HBK.out] at D5; exact D5) (by rw [← HBK.out]; exact by0)
    have BY6 := BY5.same (j3.same w.heap.size (by omega) (by omega) (.inl (by omega)))
    have s0 := S6.cell 0
    have s1 := S6.lt
    have y0 := BY6.cell 0
    have y1 := BY6.cell 1
    have y2 := BY6.cell 2
    have y3 := BY6.lt
    have HS6 := Lib.hid S6
    have HBY6 := Lib.hid BY6
    have HJ1 := Lib.hid j1
    have HJ2 := Lib.hid j2
    have HJ3 := Lib.hid j3
    have HZ5 := Lib.hid z5
    clear S6 BY5 BY6 j1 j2 j3 z5 S5 W5 R5 KB KX K2 K3
    go_upto_region 6 with (fail)
    go_cut [14] from 36 (fun v wx => ∃ b14 b41, v = .pointer (some ⟨b14, 0, none⟩) ∧ V.heap.size ≤ b14 ∧ V.heap.size ≤ b41 ∧ b14 ≠ b41 ∧ Hid (Has wx b14 24 [.int .i64 p, .slice (some ⟨b41, 0, none⟩) 1 1]) ∧ Hid (Has wx b41 26 [.int .i64 k, .int .i64 (b : Int), .string s]) ∧ Hid (wx.ownsRow V.heap.size 26 3 (.slice (some ⟨b41, 0, none⟩) 1 1) 1 (wksCells [⟨k, (b : Int), s⟩])) ∧ Hid (Below V.heap.size V wx))
    case first =>
      go_region
      · go_wp2
        go_meet
        case rel =>
          have h1 := Has.new (w := V.alloc (.cells #[.int .i64 k, .int .i64 (b : Int), .string s] 26)) (arr := #[.int .i64 p, .slice (some ⟨V.heap.size, 0, none⟩) 1 1]) (t := 24) (cs := [.int .i64 p, .slice (some ⟨V.heap.size, 0, none⟩) 1 1]) rfl
          rw [World.size_alloc] at h1
          have h2 := (Has.new (w := V) (arr := #[.int .i64 k, .int .i64 (b : Int), .string s]) (t := 26) (cs := [.int .i64 k, .int .i64 (b : Int), .string s]) rfl).alloc (.cells #[.int .i64 p, .slice (some ⟨V.heap.size, 0, none⟩) 1 1] 24)
          exact ⟨V.heap.size + 1, V.heap.size, rfl, by omega, by omega, by omega, Lib.hid h1.drew, Lib.hid h2.drew, Lib.hid (((World.ownsRow_lit V #[.int .i64 k, .int .i64 (b : Int), .string s] 1 (Nat.le_refl _) (by unfold maxLen; omega) rfl).alloc (.cells #[.int .i64 p, .slice (some ⟨V.heap.size, 0, none⟩) 1 1] 24)).drew), Lib.hid (by go_grown)⟩
      · go_wp2
        go_meet
        case rel =>
          have h1 := Has.new (w := V.alloc (.cells #[.int .i64 p, .slice (some ⟨V.heap.size + 1, 0, none⟩) 1 1] 24)) (arr := #[.int .i64 k, .int .i64 (b : Int), .string s]) (t := 26) (cs := [.int .i64 k, .int .i64 (b : Int), .string s]) rfl
          rw [World.size_alloc] at h1
          have h2 := (Has.new (w := V) (arr := #[.int .i64 p, .slice (some ⟨V.heap.size + 1, 0, none⟩) 1 1]) (t := 24) (cs := [.int .i64 p, .slice (some ⟨V.heap.size + 1, 0, none⟩) 1 1]) rfl).alloc (.cells #[.int .i64 k, .int .i64 (b : Int), .string s] 26)
          exact ⟨V.heap.size, V.heap.size + 1, rfl, by omega, by omega, by omega, Lib.hid h2.drew, Lib.hid h1.drew, Lib.hid (by have h3 := World.ownsRow_lit (base := V.heap.size) (size := 3) (V.alloc (.cells #[.int .i64 p, .slice (some ⟨V.heap.size + 1, 0, none⟩) 1 1] 24)) (e := 26) #[.int .i64 k, .int .i64 (b : Int), .string s] 1 (by simp) (by unfold maxLen; omega) rfl; rw [World.size_alloc] at h3; exact h3.drew), Lib.hid (by go_grown)⟩
    case rest =>
      obtain ⟨b14, b41, hv14, hg14, hg41, hne14, KS, KW, OW, HBc⟩ := hcut
      subst hv14
      obtain ⟨hL1, hL2, hL3⟩ := HLI.out
      have hz5 := HZ5.out
      have hzV := HJ3.out.size
      obtain ⟨bq, oq, hA9, hbq⟩ : ∃ bq oq, A9 = some ⟨bq, oq, none⟩ ∧ bq < w2.heap.size := by
        obtain ⟨j0, hj0⟩ := get_of_lt (l := L) (k := 0) hL3
        obtain ⟨bq, oq, hA9, hbq, _⟩ := R9.out 0 (j0 : Int) (by rw [List.getElem?_map, hj0]; rfl)
        exact ⟨bq, oq, hA9, hbq⟩
      subst hA9
      have hzc := HBc.out.size
      have k1 : wc.cell? ⟨b14, 1, none⟩ = some (.slice (some ⟨b41, 0, none⟩) 1 1) := KS.out.cell 1
      have HS7 := Lib.hid (HS6.out.below HBc.out s1)
      have d7 : wc.cell? ⟨sb, 0, none⟩ = some (.int .i64 p) := HS7.out.cell 0
      have k3 := KS.out.lt
      have hn91 : (1 : Int) ≤ (n9 : Int) := by omega
      have hnc9 := HC9.out.1
      have hcm9 := HC9.out.2
      clear hz5 s0 y0 y1 y2 y3
      go_wp2
      refine wp_region_noPanic ?_
      refine wp_region_B (fun b w' => w'.cell? ⟨sb, 0, none⟩ = some (.int .i64 p) ∧ (b = false → w'.cell? ⟨b14, 1, none⟩ = some (.slice (some ⟨b41, 0, none⟩) 1 1))) 9 (by kernel_rfl) ?_
      have hSSq : (fun b w' => w'.cell? ⟨sb, 0, none⟩ = some (.int .i64 p) ∧ (b = false → w'.cell? ⟨b14, 1, none⟩ = some (.slice (some ⟨b41, 0, none⟩) 1 1))) false (wc.drew) := ⟨d7, fun _ => k1⟩
      refine wpAnyB_take (i := 0) (oi := _) (v := ?vvq1) (fun w' => w'.cell? ⟨sb, 0, none⟩ = some (.int .i64 p)) rfl (by kernel_rfl) (by kernel_rfl) (by kernel_rfl) (by kernel_rfl) (by rfl) (fun _ h => h.1) (.inl fun _ h => h.1) (fun _ _ _ h => h) (.inl ⟨by rfl, ?hyq1⟩) hSSq ?_
      case hyq1 =>
        intro w' hSw
        try dsimp only at hSw
        go_simp
        all_goals with_reducible rfl
      try simp only [Act.put, List.setIfInBounds_toArray]
      refine wpAnyB_take (i := 1) (oi := _) (v := ?vvq2) (fun w' => w'.cell? ⟨sb, 0, none⟩ = some (.int .i64 p) ∧ w'.cell? ⟨b14, 1, none⟩ = some (.slice (some ⟨b41, 0, none⟩) 1 1)) rfl (by kernel_rfl) (by kernel_rfl) (by kernel_rfl) (by kernel_rfl) (by rfl) (fun _ h => ⟨h.1, h.2 rfl⟩) (.inr (by kernel_rfl)) (fun _ _ _ h => h) (.inl ⟨by rfl, ?hyq2⟩) hSSq ?_
      case hyq2 =>
        intro w' hSw
        try dsimp only at hSw
        go_simp
        all_goals with_reducible rfl
      try simp only [Act.put]
      refine wpAnyB_take (i := 2) (oi := _) (v := ?vvq3) (fun w' => w'.cell? ⟨sb, 0, none⟩ = some (.int .i64 p)) rfl (by kernel_rfl) (by kernel_rfl) (by kernel_rfl) (by kernel_rfl) (by rfl) (fun _ h => h.1) (.inl fun _ h => h.1) (fun _ _ _ h => h) (.inl ⟨by rfl, ?hyq3⟩) hSSq ?_
      case hyq3 =>
        intro w' hSw
        try dsimp only at hSw
        go_simp
        all_goals with_reducible rfl
      try simp only [Act.put]
      refine wpAnyB_take (i := 3) (oi := _) (v := ?vvq4) (fun w' => w'.cell? ⟨sb, 0, none⟩ = some (.int .i64 p)) rfl (by kernel_rfl) (by kernel_rfl) (by kernel_rfl) (by kernel_rfl) (by rfl) (fun _ h => h.1) (.inl fun _ h => h.1) (fun _ _ _ h => h) (.inl ⟨by rfl, ?hyq4⟩) hSSq ?_
      case hyq4 =>
        intro w' hSw
        try dsimp only at hSw
        go_simp
        all_goals with_reducible rfl
      try simp only [Act.put]
      refine wpAnyB_take (i := 4) (oi := _) (v := ?vvq5) (fun w' => w'.cell? ⟨sb, 0, none⟩ = some (.int .i64 p)) rfl (by kernel_rfl) (by kernel_rfl) (by kernel_rfl) (by kernel_rfl) (by rfl) (fun _ h => h.1) (.inl fun _ h => h.1) (fun _ _ _ h => h) (.inl ⟨by rfl, ?hyq5⟩) hSSq ?_
      case hyq5 =>
        intro w' hSw
        try dsimp only at hSw
        go_simp
        all_goals with_reducible rfl
      try simp only [Act.put]
      refine wpAnyB_one (i := 5) false rfl (by kernel_rfl) (by kernel_rfl) ?_
      intro KK hKK
      go_simp
      refine (all75 _ _ _ _).mono ?_
      rintro e w7 ⟨rfl, hw7⟩
      dsimp only
      have X7 : Has w7 wc.heap.size 29 [.slice (if c9 = 1 then some ⟨bq, oq, none⟩ else some ⟨bq, oq + 1, none⟩) (n9 - 1) (c9 - 1)] := by rw [hw7]; exact Has.new rfl
      have D7 : Below wc.heap.size wc w7 := by rw [hw7]; go_grown
      have z7 : w7.heap.size = wc.heap.size + 1 := by rw [hw7]; simp
      have HZ7 := Lib.hid z7
      clear hw7 z7
      have g7 := (HS7.out.below D7 HS7.out.lt).cell 0
      have r7 := (KS.out.below D7 KS.out.lt).cell 1
      refine hKK.out _ _ ⟨g7, fun _ => r7⟩ ?_
      clear hKK KK
      try simp only [Act.put, List.setIfInBounds_toArray, List.set_cons_zero, List.set_cons_succ]
      refine wpAnyB_one (i := 6) false rfl (by kernel_rfl) (by kernel_rfl) ?_
      intro KK hKK
      go_simp
      refine (works72 _ _ _ _).mono ?_
      rintro e w8 ⟨rfl, hw8⟩
      dsimp only
      have X8 : Has w8 wc.heap.size 29 [.slice (if c9 = 1 then some ⟨bq, oq, none⟩ else some ⟨bq, oq + 1, none⟩) (n9 - 1) (c9 - 1)] := by rw [hw8]; exact (X7.alloc _).alloc _
      have Y8 : Has w8 w7.heap.size 70 [.pointer (some ⟨sb, 0, none⟩)] := by rw [hw8]; exact (Has.new rfl).alloc _
      have Z8 : Has w8 (w7.heap.size + 1) 114 [.func (.func 100) #[] #[.pointer (some ⟨wc.heap.size, 0, none⟩)]] := by rw [hw8]; have h := Has.new (w := w7.alloc (.cells #[.pointer (some ⟨sb, 0, none⟩)] 70)) (arr := #[.func (.func 100) #[] #[.pointer (some ⟨wc.heap.size, 0, none⟩)]]) (t := 114) (cs := [.func (.func 100) #[] #[.pointer (some ⟨wc.heap.size, 0, none⟩)]]) rfl; rwa [World.size_alloc] at h
      have D8 : Below wc.heap.size wc w8 := D7.trans (by have hz7 := HZ7.out; rw [hw8]; refine ((Below.refl _ w7).alloc (by omega) _).alloc (by simp; omega) _)
      have z8 : w8.heap.size = wc.heap.size + 3 := by rw [hw8]; simp [HZ7.out]
      have HZ8 := Lib.hid z8
      clear hw8 g7 r7 z8
      have g8 := (HS7.out.below D8 HS7.out.lt).cell 0
      have r8 := (KS.out.below D8 KS.out.lt).cell 1
      have O8 := own_below OW.out D8
      refine hKK.out _ _ ⟨g8, fun _ => r8⟩ ?_
      clear hKK KK
      try simp only [Act.put, List.setIfInBounds_toArray, List.set_cons_zero, List.set_cons_succ]
      refine wpAnyB_one (i := 7) false rfl (by kernel_rfl) (by kernel_rfl) ?_
      intro KK hKK
      have SEQ : SeqW 98 #[.pointer (some ⟨w7.heap.size + 1, 0, none⟩), .pointer (some ⟨w7.heap.size, 0, none⟩)] V.heap.size w8.heap.size (w8.alloc (.cells #[.slice (some ⟨b41, 0, none⟩) 1 1] 22)) ((alN L.tail (n9 - 1)).map fun x => wkA ws x.2) := by
        have hw5z := HZ5.out
        have hz7 := HZ7.out
        have hz8 := HZ8.out
        have hzV := HJ3.out.size
        have PATH : ∀ r, r < bk → w8.heap[r]? = w2.heap[r]? := fun r hr => (D8.block r (by omega)).trans ((HBc.out.block r (by omega)).trans ((HJ3.out.same r (by omega) (by omega) (.inl (by omega))).trans (D5.block r hr)))
        have hbk2 := HBK.out
        have W8 : RdW w8 V.heap.size A ws := by
          have h1 : RdW w2 w2.heap.size A ws := HW.out.up HB2.out
          exact h1.path (fun r hr => PATH r (by omega)) (by omega)
        refine worksIt 100 #[.pointer (some ⟨wc.heap.size, 0, none⟩)] (w7.heap.size + 1) w7.heap.size sb V.heap.size w8.heap.size n c p A ws (alN L.tail (n9 - 1)) _ Try.call100 (alIter wc.heap.size bq (oq + 1) (n9 - 1) (c9 - 1) V.heap.size w8.heap.size _ L.tail _ (by rw [List.length_tail, hn9]) (by omega) (by omega) (by omega) (by omega) (X8.alloc _) (fun h0 => if_neg (by omega)) (fun j x hx => ?_)) (Z8.alloc _) (Y8.alloc _) (((HS7.out.below D8 HS7.out.lt)).alloc _) (W8.path (fun r hr => Below.heap_alloc _ _ r (by omega)) (Nat.le_refl _)) (by omega) (by omega) (by omega) (fun b' o' hA => ?_) (fun x hx => hL1 _ (List.mem_of_mem_tail (mem_alN (by rw [List.length_tail, hn9]; exact hx)))) HL.out
        · have hx' : L[j + 1]? = some x := by rw [← hx, List.getElem?_tail]
          obtain ⟨b', o', e, _, c0⟩ := R9.out (j + 1) (x : Int) (by rw [List.getElem?_map, hx']; rfl)
          injection e with e; injection e with e1 e2
          subst e1 e2
          have hbq8 : (w8.alloc (.cells #[.slice (some ⟨b41, 0, none⟩) 1 1] 22)).heap[bq]? = w2.heap[bq]? := (Below.heap_alloc _ _ bq (by omega)).trans (PATH bq (by omega))
          exact (World.cell?_of_block hbq8).trans (by rw [show oq + 1 + j = oq + (j + 1) by omega]; exact c0)
        · obtain ⟨j0, hj0⟩ := get_of_lt (l := L) (k := 0) hL3
          obtain ⟨y, hy⟩ := get_of_lt (hL1 j0 (List.mem_of_getElem? hj0))
          obtain ⟨b'', o'', e, h1, _⟩ := W8 j0 y hy
          rw [hA] at e; injection e with e; injection e with e1 _
          omega
      have SEQH := Lib.hid SEQ
      clear SEQ
      have LEN : [(⟨k, (b : Int), s⟩ : Wk)].length + ((alN L.tail (n9 - 1)).map fun x => wkA ws x.2).length ≤ 100000 := by unfold alN; simp; omega
      go_simp
      refine (appendSeqW 98 #[.pointer (some ⟨w7.heap.size + 1, 0, none⟩), .pointer (some ⟨w7.heap.size, 0, none⟩)] V.heap.size (.slice (some ⟨b41, 0, none⟩) 1 1) [⟨k, (b : Int), s⟩] ((alN L.tail (n9 - 1)).map fun x => wkA ws x.2) w8 O8 (by have := HZ8.out; omega) Try.call98 SEQH.out LEN).mono ?_
      rintro e w9 ⟨A9', nr, cr, rfl, hr9, hnr, hst9⟩
      dsimp only
      have hw5V := HJ3.out.size
      have hz8 := HZ8.out
      have G9 := (HS7.out.below D8 HS7.out.lt).same (hst9.same sb (by omega) (by omega) (.inl (by omega)))
      have Q9 := (KS.out.below D8 KS.out.lt).same (hst9.same b14 (by omega) (by omega) (.inr (fun cs fr e => by have h := KS.out.below D8 KS.out.lt; unfold Has at h; rw [h] at e; cases e)))
      refine hKK.out _ _ ⟨G9.cell 0, fun _ => Q9.cell 1⟩ ?_
      clear hKK KK
      try simp only [Act.put, List.setIfInBounds_toArray, List.set_cons_zero, List.set_cons_succ]
      refine wpAnyB_one (i := 8) false rfl (by kernel_rfl) (by kernel_rfl) ?_
      intro KK hKK
      clear hz8
      have g9 := Q9.lt
      go_simp
      refine hKK.out _ _ ⟨G9.cell 0, fun _ => Q9.cell 1⟩ ?_
      clear hKK KK
      try simp only [Act.put, List.setIfInBounds_toArray, List.set_cons_zero, List.set_cons_succ]
      refine wpAnyB_one (i := 9) true rfl (by kernel_rfl) (by kernel_rfl) ?_
      intro KK hKK
      have g90 := Q9.cell 1
      have g91 := Q9.free 1
      have g92 := Q9.lt
      go_simp
      refine hKK.out _ _ ⟨(G9.far (by omega) 1 _).cell 0, fun hh => by cases hh⟩ ?_
      clear hKK KK
      try simp only [Act.put, List.setIfInBounds_toArray, List.set_cons_zero, List.set_cons_succ]
      refine wpAnyB_done (by kernel_rfl) (NoPanic.normal ?_) _
      have hzz8 := HZ8.out
      have hw5z := HZ5.out
      have hbk2 := HBK.out
      obtain ⟨w10, hw10⟩ : ∃ W, W = w9.setCell ⟨b14, 1, none⟩ (.slice A9' nr cr) := ⟨_, rfl⟩
      have T10 : Has w10 b14 24 [.int .i64 p, .slice A9' nr cr] := by rw [hw10]; exact Q9.set 1 _
      have eR : [(⟨k, (b : Int), s⟩ : Wk)] ++ ((alN L.tail (n9 - 1)).map fun x => wkA ws x.2) = planR ⟨k, (b : Int), s⟩ ws L := by
        have h := alN_works ws L.tail
        rw [List.length_tail, hn9] at h
        rw [h]; rfl
      have O10 : w10.ownsRow V.heap.size 26 3 (.slice A9' nr cr) nr (wksCells (planR ⟨k, (b : Int), s⟩ ws L)) := by
        rw [hw10, ← eR]
        exact (But.set b14 w9 1 (.slice A9' nr cr)).own hr9 (Q9.ne_own hr9 (by decide))
      have nR : (planR ⟨k, (b : Int), s⟩ ws L).length = nr := by rw [← eR]; exact hnr
      have P10 : ∀ r, r < V.heap.size → w10.heap[r]? = V.heap[r]? := fun r hr => by
        rw [hw10]
        exact (Below.heap_setCell w9 ⟨b14, 1, none⟩ _ r (by show r ≠ b14; omega)).trans ((hst9.same r (by omega) (by omega) (.inl hr)).trans ((D8.block r (by omega)).trans (HBc.out.block r hr)))
      have T12 := HJ1.out.same (P10 bk (by omega))
      have eU : xs'.map undoW = planU ws L := by
        have h := bkN_works ws L
        rw [hn9] at h
        rw [hlst, h, List.map_map]; rfl
      have nU : (planU ws L).length = xs'.length := by rw [← eU, List.length_map]
      obtain ⟨nx, hnx⟩ : ∃ m, m = xs'.length := ⟨_, rfl⟩
      rw [← hnx] at nU T12
      have hz10 : w9.heap.size = w10.heap.size := by rw [hw10]; simp [World.setCell]
      have hz9 := hst9.size
      have RU : RdW w10 w10.heap.size X (planU ws L) := by
        rw [← eU]
        exact (own_rdW HJ2.out).path P10 (by omega)
      have RR : RdW w10 w10.heap.size A9' (planR ⟨k, (b : Int), s⟩ ws L) := own_rdW O10
      have B10 : Below w.heap.size w w10 := by
        have b1 : Below w.heap.size w2 w5 := D5.mono (by omega)
        have b2 : Below w.heap.size w5 V := HJ3.out.low (by omega) (by omega) (by omega)
        have b3 : Below w.heap.size V wc := HBc.out.mono (by omega)
        have b4 : Below w.heap.size wc w8 := D8.mono (by omega)
        have b5 : Below w.heap.size w8 w9 := hst9.low (by omega) (by omega) (by omega)
        have b6 : Below w.heap.size w9 w10 := by rw [hw10]; exact (Below.refl _ _).setCell (by show _ ≤ b14; omega) _
        exact (((((HB2.out.trans b1).trans b2).trans b3).trans b4).trans b5).trans b6
      have hD10 : w10.heap[D]? = some (.deferred (some [])) := (P10 D (Array.getElem?_eq_some_iff.1 hDf).1).trans hDf
      have hDw : w.heap.size ≤ D := by omega
      have OKU := planU_ok HOK.out.1 hL1 hL2
      have OKR := planR_ok HOK.out.1 HOK.out.2 hL1 hL3 hL2
      have HT10 := Lib.hid T10
      have HT12 := Lib.hid T12
      have HRR := Lib.hid RR
      have HB10 := Lib.hid B10
      have HD10 := Lib.hid hD10
      have t0 := T12.cell 0
      have t1 := T12.cell 1
      have t2 := T12.lt
      rw [← hw10]
      have HOKR := Lib.hid OKR
      clear hlst hnx hll
      generalize (if c9 = 1 then some (⟨bq, oq, none⟩ : Addr) else some ⟨bq, oq + 1, none⟩) = AQ
      cases hsp : spB p span with
      | false =>
        have CU := Lib.hid (quickF p span X nx cx (planU ws L) w10 RU nU OKU hsp)
        have HR2 : Hid (RET = RetPl [] [] 7 w) := HRET.out.trans (if_neg (by rw [hsp]; decide))
        clear hw10 hst9 Q9 G9 hr9 hnr g90 g91 g92 g9 T10 O10 P10 RU RR B10 hD10 eR eU nU nR OKU OKR hsp hz10 hz9 T12 hbk2 hw5z hzz8 SEQH X8 Y8 Z8 D8 O8 g8 r8 X7 D7 k1 d7 k3 hn91 hnc9 hcm9 LEN
        go_wp2_with (first | (go_at_call 76; refine CU.out.mono ?_; rintro e w11 ⟨A11, n11, c11, rfl, hr11, hn11, hnc11, hcm11, hb11⟩) | fail)
        go_wp2
        refine postM_mark3 rfl rfl rfl rfl rfl ((hb11.block D (Array.getElem?_eq_some_iff.1 HD10.out).1).trans HD10.out) ?_
        rw [HR2.out]
        exact ⟨none, 0, 0, none, 0, 0, rfl, RdW.nil _ _ _, rfl, Nat.le_refl _, by omega, RdW.nil _ _ _, rfl, Nat.le_refl _, by omega, below_putD (bvia HB10.out hb11) hDw _⟩
      | true =>
        have CU := Lib.hid (quickZ p span X nx cx (planU ws L) w10 RU nU OKU hsp)
        have CR := Lib.hid (fun (W : World) (hb : Below w10.heap.size w10 W) => quickZ p span A9' nr cr (planR ⟨k, (b : Int), s⟩ ws L) W (HRR.out.up hb) nR HOKR.out hsp)
        have HR2 := Lib.hid (HRET.out.trans (if_pos hsp))
        clear HRET
        clear hw10 hst9 Q9 G9 hr9 hnr g90 g91 g92 g9 T10 O10 P10 RU RR B10 hD10 eR eU nU nR OKU OKR hsp hz10 hz9 T12 hbk2 hw5z hzz8 SEQH X8 Y8 Z8 D8 O8 g8 r8 X7 D7 k1 d7 k3 hn91 hnc9 hcm9 LEN
        obtain ⟨PU, hPU⟩ : ∃ l, l = quickP p.toNat span.toNat (planU ws L) := ⟨_, rfl⟩
        obtain ⟨PR, hPR⟩ : ∃ l, l = quickP p.toNat span.toNat (planR ⟨k, (b : Int), s⟩ ws L) := ⟨_, rfl⟩
        rw [← hPU] at CU HR2
        rw [← hPR] at CR HR2
        clear hPU hPR
        go_wp2_with (first
          | (go_at_call 76; refine CU.out.mono ?_; rintro e w11 ⟨A11, n11, c11, rfl, hr11, hn11, hnc11, hcm11, hb11⟩; have u0 := (HT10.out.below hb11 HT10.out.lt).cell 0; have u1 := (HT10.out.below hb11 HT10.out.lt).cell 1; have u2 := (HT10.out.below hb11 HT10.out.lt).lt; have HR11 := Lib.hid hr11; have HB11 := Lib.hid hb11; clear hr11 hb11 CU)
          | (go_at_call 76; refine (CR.out _ HB11.out).mono ?_; rintro e w12 ⟨A12, n12, c12, rfl, hr12, hn12, hnc12, hcm12, hb12⟩) | fail)
        go_wp2
        have hDD : w12.heap[D]? = some (.deferred (some [])) := by
          have h11 := (HB11.out.block D (Array.getElem?_eq_some_iff.1 HD10.out).1).trans HD10.out
          exact (hb12.block D (Array.getElem?_eq_some_iff.1 h11).1).trans h11
        refine postM_mark3 rfl rfl rfl rfl rfl hDD ?_
        have hsz : (w12.putObj D (.deferred none)).heap.size = w12.heap.size := by simp [World.putObj]
        have PP : ∀ {A : Option Addr} {l : List Wk}, RdW w12 w12.heap.size A l → RdW (w12.putObj D (.deferred none)) (w12.putObj D (.deferred none)).heap.size A l := fun {A l} h j x hx => by
          obtain ⟨b', o', h1, h2, h3, h4, h5⟩ := h j x hx
          have hne : b' ≠ D := fun e => by rw [e] at h3; obtain ⟨o9, hh, hi⟩ := cells_of_cell h3; have hh' : w12.heap[D]? = some o9 := hh; rw [hDD] at hh'; injection hh' with hh'; rw [← hh'] at hi; cases hi
          have ee : ∀ i, (w12.putObj D (.deferred none)).cell? ⟨b', i, none⟩ = w12.cell? ⟨b', i, none⟩ := fun i => World.cell?_of_block (World.putObj_heap_other hne)
          exact ⟨b', o', h1, by rw [hsz]; exact h2, (ee _).trans h3, (ee _).trans h4, (ee _).trans h5⟩
        rw [HR2.out]
        exact ⟨A11, n11, c11, A12, n12, c12, rfl, PP (HR11.out.up hb12), hn11, hnc11, hcm11, PP hr12, hn12, hnc12, hcm12, below_putD (bvia (bvia HB10.out HB11.out) hb12) hDw _⟩
end Go.Proofs.Ytnjenggijmbhcaa
/-
  Contract of undo.Plan.
-/
namespace Go.Proofs.Ytnjenggijmbhcaa
open Go.RowKit
/-- the error of a plan -/
def plE (p span : Int) (ws : List Wk) (at_ : Int) (x : Wk) : Int := if askE p ws at_ x ≠ 0 then askE p ws at_ x else if spB p span = true then 0 else 7
/-- the indices that are undone -/
def plL (ws : List Wk) (at_ : Int) (x : Wk) : List Nat := abU ws at_.toNat x.at_ ws.length
def plU (p span : Int) (ws : List Wk) (at_ : Int) (x : Wk) : List Wk := if plE p span ws at_ x = 0 then quickP p.toNat span.toNat (planU ws (plL ws at_ x)) else []
def plR (p span : Int) (ws : List Wk) (at_ : Int) (x : Wk) : List Wk := if plE p span ws at_ x = 0 then quickP p.toNat span.toNat (planR x ws (plL ws at_ x)) else []
theorem results_tmp3 {fn : Func} {t u v : Tmp} (h : fn.results = #[.tmp t, .tmp u, .tmp v]) (tmps : Array Value) (P : Program) (w : World) :
    (results fn tmps).run P w = .ok (.tuple #[tmps.getD t undef, tmps.getD u undef, tmps.getD v undef]) w := by
  simp [results, h]
theorem plE_err {p span : Int} {ws : List Wk} {at_ : Int} {x : Wk} (h : askE p ws at_ x ≠ 0) : plE p span ws at_ x = askE p ws at_ x := if_pos h
theorem plE_ok {p span : Int} {ws : List Wk} {at_ : Int} {x : Wk} (h : askE p ws at_ x = 0) : plE p span ws at_ x = if spB p span = true then 0 else 7 := by
  unfold plE; rw [if_neg (by rw [h]; simp)]
theorem plE_zero {p span : Int} {ws : List Wk} {at_ : Int} {x : Wk} (h : plE p span ws at_ x = 0) : askE p ws at_ x = 0 ∧ spB p span = true := by
  unfold plE at h
  by_cases h1 : askE p ws at_ x = 0
  · rw [if_neg (by rw [h1]; simp)] at h
    refine ⟨h1, ?_⟩
    cases hs : spB p span with
    | true => rfl
    | false => rw [hs] at h; cases h
  · rw [if_pos h1] at h; exact absurd h h1
set_option maxRecDepth 100000 in
set_option maxHeartbeats 1000000 in
theorem unPlan (p span at_ k a : Int) (s : ByteArray) (A : Option Addr) (n c : Nat) (ws : List Wk) (w : World) (hn : n ≤ 9223372036854775807) (hnc : n ≤ c) (hcm : c ≤ 9223372036854775807) (hw : RdW w w.heap.size A ws) (hl : ws.length = n)
    (hs : ∀ x ∈ ws, x.word.size ≤ 9223372036854775807) (hs2 : s.size ≤ 9223372036854775807) :
    Calls Try.prog 26 #[.agg #[.int .i64 p, .slice A n c], .int .i64 span, .int .i64 at_, .agg #[.int .i64 k, .int .i64 a, .string s]] w (RetPl (plU p span ws at_ ⟨k, a, s⟩) (plR p span ws at_ ⟨k, a, s⟩) (plE p span ws at_ ⟨k, a, s⟩) w) := by
  have HW := Lib.hid hw; clear hw
  have HL := Lib.hid hl; clear hl
  have HS := Lib.hid hs; clear hs
  have C := Lib.hid (fun (W : World) (hw : RdW W W.heap.size A ws) => unCheck p at_ k a s A n c w.heap.size ws W hn hw HL.out HS.out hs2)
  by_cases h0 : askE p ws at_ ⟨k, a, s⟩ = 0
  · obtain ⟨z1, z2, z3, z4⟩ := askE_zero h0
    have v1 := schk_zero z1
    have v2 := schk_zero z4
    have b1 := valid_at v2 ⟨k, a, s⟩ (by simp)
    have H0 := Lib.hid h0
    rw [HL.out] at z3
    obtain ⟨m, rfl⟩ := Int.eq_ofNat_of_zero_le z2
    obtain ⟨b, rfl⟩ := Int.eq_ofNat_of_zero_le b1.1
    have D := Lib.hid (fun (W : World) (hS : Has W w.heap.size 24 [.int .i64 p, .slice A n c]) (hw : RdW W W.heap.size A ws) => planC w.heap.size m n c b p span k s A ws W hS hw HL.out hnc hcm v1 v2 (by omega))
    have HP : Hid (∀ (e : Ending) (W W' : World), (if spB p span = true then RetPl (quickP p.toNat span.toNat (planU ws (abU ws m b n))) (quickP p.toNat span.toNat (planR ⟨k, (b : Int), s⟩ ws (abU ws m b n))) 0 W else RetPl [] [] 7 W) e W' → RetPl (plU p span ws (m : Int) ⟨k, (b : Int), s⟩) (plR p span ws (m : Int) ⟨k, (b : Int), s⟩) (plE p span ws (m : Int) ⟨k, (b : Int), s⟩) W e W') := fun e W W' h => by
      have e1 := plE_ok (span := span) h0
      have e2 : plL ws (m : Int) ⟨k, (b : Int), s⟩ = abU ws m b n := by unfold plL; rw [HL.out, Int.toNat_natCast]
      by_cases hsp : spB p span = true
      · rw [if_pos hsp] at h e1
        unfold plU plR
        rw [e1, if_pos rfl, if_pos rfl, e2]
        exact h
      · rw [if_neg hsp] at h e1
        unfold plU plR
        rw [e1, if_neg (by decide), if_neg (by decide)]
        exact h
    obtain ⟨U, hU⟩ : ∃ U, U = plU p span ws (m : Int) ⟨k, (b : Int), s⟩ := ⟨_, rfl⟩
    obtain ⟨R, hR⟩ : ∃ R, R = plR p span ws (m : Int) ⟨k, (b : Int), s⟩ := ⟨_, rfl⟩
    obtain ⟨E, hE⟩ : ∃ E, E = plE p span ws (m : Int) ⟨k, (b : Int), s⟩ := ⟨_, rfl⟩
    rw [← hU, ← hR, ← hE] at HP ⊢
    clear hU hR hE v1 v2 b1 z2 z3 z1 z4 h0
    go_enter Try.func26, Try.ntmps26
    go_wp2_with fail
    refine (C.out _ (HW.out.up (by go_grown)) (by simp; omega) (by go_simp) (by go_simp)).mono ?_
    rintro e w1 ⟨rfl, hb1⟩
    rw [H0.out]
    have B1 : Below w.heap.size w w1 := bvia (by go_grown) hb1
    have hw1 := Lib.hid (HW.out.up B1)
    have hS1 : Has w1 w.heap.size 24 [.int .i64 p, .slice A n c] := ((Has.new rfl).alloc _).below hb1 (by simp; omega)
    have HS1 := Lib.hid hS1
    have HB1 := Lib.hid B1
    have e0 : w1.cell? ⟨w.heap.size + 1, 0, none⟩ = some (.int .i64 k) := by rw [hb1.cell (by simp)]; go_simp
    have e1 : w1.cell? ⟨w.heap.size + 1, 1, none⟩ = some (.int .i64 (b : Int)) := by rw [hb1.cell (by simp)]; go_simp
    have e2 : w1.cell? ⟨w.heap.size + 1, 2, none⟩ = some (.string s) := by rw [hb1.cell (by simp)]; go_simp
    have hz := hb1.size
    simp at hz
    clear hb1 B1 hS1
    go_wp2_with fail
    refine (D.out _ HS1.out hw1.out).mono ?_
    intro e w2 h
    replace h := HP.out _ _ _ h
    obtain ⟨A1, n1, c1, A2, n2, c2, rfl, r1, r2, r3, r4, r5, r6, r7, r8, r9⟩ := h
    have R1 := Lib.hid r1
    have R5 := Lib.hid r5
    clear r1 r5
    go_wp2
    refine bodyPost_ret (results_tmp3 rfl _ _ _) rfl ?_
    exact ⟨A1, n1, c1, A2, n2, c2, rfl, R1.out, r2, r3, r4, R5.out, r6, r7, r8, bvia HB1.out r9⟩
  · have hE := plE_err (span := span) h0
    have hU : plU p span ws at_ ⟨k, a, s⟩ = [] := by unfold plU; rw [hE, if_neg h0]
    have hR : plR p span ws at_ ⟨k, a, s⟩ = [] := by unfold plR; rw [hE, if_neg h0]
    have h3' : (askE p ws at_ ⟨k, a, s⟩ != 0) = true := by simpa using h0
    rw [hE, hU, hR]
    clear h0 hE hU hR
    generalize askE p ws at_ ⟨k, a, s⟩ = q at *
    go_enter Try.func26, Try.ntmps26
    go_wp2_with fail
    refine (C.out _ (HW.out.up (by go_grown)) (by simp; omega) (by go_simp) (by go_simp)).mono ?_
    rintro e w1 ⟨rfl, hb1⟩
    obtain ⟨hc, hf⟩ := bcell hb1
    go_wp2
    refine bodyPost_ret (results_tmp3 rfl _ _ _) rfl ?_
    exact ⟨_, _, _, _, _, _, rfl, RdW.nil _ _ _, rfl, Nat.zero_le _, by omega, RdW.nil _ _ _, rfl, Nat.zero_le _, by omega, bvia (by go_grown) hb1⟩
end Go.Proofs.Ytnjenggijmbhcaa
/-
  Walk of UndoKnown: the examples of the document, given undo.Net's contract.
-/
namespace Go.Proofs.Ytnjenggijmbhcaa
open Go.RowKit
theorem kn1 : abvL 4 exWs 1 ⟨1, 2, ⟨#[67, 84]⟩⟩ = [1, 2, 3] := by decide +kernel
theorem kn2 : askE 4 exWs 1 ⟨1, 2, ⟨#[67, 84]⟩⟩ = 0 := by decide +kernel
theorem kn3 : abvL 4 exWs 3 ⟨1, 1, ⟨#[67]⟩⟩ = [3] := by decide +kernel
theorem kn4 : askE 4 exWs 3 ⟨1, 1, ⟨#[67]⟩⟩ = 0 := by decide +kernel
theorem kn5 : abvL 4 exWs 4 ⟨1, 1, ⟨#[67]⟩⟩ = [] := by decide +kernel
theorem kn6 : askE 4 exWs 4 ⟨1, 1, ⟨#[67]⟩⟩ = 7 := by decide +kernel
def knU : List Wk := [⟨1, 0, ⟨#[]⟩⟩, ⟨2, 2, ⟨#[99]⟩⟩, ⟨2, 1, ⟨#[116, 99]⟩⟩, ⟨2, 0, ⟨#[99, 116, 99]⟩⟩]
def knR : List Wk := [⟨1, 0, ⟨#[]⟩⟩, ⟨2, 0, ⟨#[67, 84]⟩⟩, ⟨2, 1, ⟨#[67, 84]⟩⟩, ⟨2, 2, ⟨#[67]⟩⟩]
theorem kn7 : plE 4 4 exWs 0 ⟨1, 0, ⟨#[67, 84]⟩⟩ = 0 := by decide +kernel
theorem kn8 : plU 4 4 exWs 0 ⟨1, 0, ⟨#[67, 84]⟩⟩ = knU := by decide +kernel
theorem kn9 : plR 4 4 exWs 0 ⟨1, 0, ⟨#[67, 84]⟩⟩ = knR := by decide +kernel
theorem knUU : (knU == knU) = true := by decide +kernel
theorem knRR : (knR == knR) = true := by decide +kernel
set_option maxRecDepth 100000 in
set_option maxHeartbeats 2000000 in
theorem known28 (NU : NetSays) (w : World) : Calls Try.prog 8 #[] w fun e w' => e = .returned (.bool true) ∧ Below w.heap.size w w' := by
  have AWK := Lib.hid (fun W => awakeOf NU W)
  clear NU
  go_enter Try.func8, Try.ntmps8
  go_wp2_with fail
  refine (example30 _).mono ?_
  rintro e w1 ⟨g, rfl, r1, hb1⟩
  go_wp2_with fail
  refine (stitch31 _ _ _).mono ?_
  rintro e w2 ⟨rfl, hb2⟩
  go_wp2_with fail
  refine (AboveUn _ _ _ _ _ _ _ _ _ _ (by decide) (by decide) (by decide) (r1.up hb2) rfl exSmall (by decide)).mono ?_
  rintro e w3 ⟨A3, n3, c3, rfl, r3, l3, m3, o3, hb3⟩
  rw [kn1] at r3 l3
  rw [kn2]
  obtain rfl : 3 = n3 := l3
  have b3 : Below w.heap.size w w3 := bvia (bvia hb1 hb2) hb3
  clear hb1 hb2 hb3 r1
  have R3 := Lib.hid r3; clear r3
  go_wp2_with fail
  refine (example30 _).mono ?_
  rintro e w4 ⟨g, rfl, r1, hb1⟩
  go_wp2_with fail
  refine (stitch31 _ _ _).mono ?_
  rintro e w5 ⟨rfl, hb2⟩
  go_wp2_with fail
  refine (AboveUn _ _ _ _ _ _ _ _ _ _ (by decide) (by decide) (by decide) (r1.up hb2) rfl exSmall (by decide)).mono ?_
  rintro e w6 ⟨A6, n6, c6, rfl, r6, l6, m6, o6, hb3⟩
  rw [kn3] at r6 l6
  rw [kn4]
  obtain rfl : 1 = n6 := l6
  have R3' := Lib.hid (R3.out.up (bvia (bvia hb1 hb2) hb3)); clear R3
  have b6 : Below w.heap.size w w6 := bvia b3 (bvia (bvia hb1 hb2) hb3)
  clear hb1 hb2 hb3 r1 b3
  have R6 := Lib.hid r6; clear r6
  go_wp2_with fail
  refine (example30 _).mono ?_
  rintro e w7 ⟨g, rfl, r1, hb1⟩
  go_wp2_with fail
  refine (stitch31 _ _ _).mono ?_
  rintro e w8 ⟨rfl, hb2⟩
  go_wp2_with fail
  refine (AboveUn _ _ _ _ _ _ _ _ _ _ (by decide) (by decide) (by decide) (r1.up hb2) rfl exSmall (by decide)).mono ?_
  rintro e w9 ⟨A9, n9, c9, rfl, r9, l9, m9, o9, hb3⟩
  rw [kn6]
  have R3 := Lib.hid (R3'.out.up (bvia (bvia hb1 hb2) hb3)); clear R3'
  have R6' := Lib.hid (R6.out.up (bvia (bvia hb1 hb2) hb3)); clear R6
  have b9 : Below w.heap.size w w9 := bvia b6 (bvia (bvia hb1 hb2) hb3)
  clear hb1 hb2 hb3 r1 b6 r9 l9 m9 o9
  go_wp2_with fail
  refine (example30 _).mono ?_
  rintro e w10 ⟨g, rfl, r1, hb1⟩
  go_wp2_with fail
  refine (stitch31 _ _ _).mono ?_
  rintro e w11 ⟨rfl, hb2⟩
  go_wp2_with fail
  refine (unPlan _ _ _ _ _ _ _ _ _ _ _ (by decide) (by decide) (by decide) (r1.up hb2) rfl exSmall (by decide)).mono ?_
  rintro e w12 ⟨A12, n12, c12, A13, n13, c13, rfl, ru, lu, mu, ou, rr, lr, mr, or_, hb3⟩
  rw [kn8] at ru lu
  rw [kn9] at rr lr
  rw [kn7]
  obtain rfl : 4 = n12 := lu
  obtain rfl : 4 = n13 := lr
  have R3' := Lib.hid (R3.out.up (bvia (bvia hb1 hb2) hb3)); clear R3
  have R6 := Lib.hid (R6'.out.up (bvia (bvia hb1 hb2) hb3)); clear R6'
  have b12 : Below w.heap.size w w12 := bvia b9 (bvia (bvia hb1 hb2) hb3)
  have RU := Lib.hid ru
  have RR := Lib.hid rr
  clear hb1 hb2 hb3 r1 b9 ru rr
  go_wp2_with fail
  refine (sameInts04 A3 (some ⟨w12.heap.size, 0, none⟩) 3 3 c3 3 [1, 2, 3] [1, 2, 3] _ (by omega) (by omega) (R3'.out.up (by go_grown)) (rd_ints (Has.new rfl)) rfl rfl).mono ?_
  rintro e w13 ⟨rfl, hb1⟩
  have B13 : Below w12.heap.size w12 w13 := bvia (by go_grown) hb1
  clear hb1
  go_wp2_with fail
  refine (sameInts04 A6 (some ⟨w13.heap.size, 0, none⟩) 1 1 c6 1 [3] [3] _ (by omega) (by omega) (R6.out.up (bvia B13 (by go_grown))) (rd_ints (Has.new rfl)) rfl rfl).mono ?_
  rintro e w14 ⟨rfl, hb1⟩
  have B14 : Below w12.heap.size w12 w14 := bvia B13 (bvia (by go_grown) hb1)
  clear hb1 B13
  go_wp2_with fail
  have K1 : Has (w14.alloc (.cells (wksCells knU).toArray 64)) w14.heap.size 64 (wksCells knU) := Has.new rfl
  have K2 : Has ((w14.alloc (.cells (wksCells knU).toArray 64)).alloc (.cells (wksCells knR).toArray 64)) (w14.heap.size + 1) 64 (wksCells knR) := by
    have h := Has.new (w := w14.alloc (.cells (wksCells knU).toArray 64)) (arr := (wksCells knR).toArray) (t := 64) (cs := wksCells knR) rfl
    rwa [World.size_alloc] at h
  have K1' := K1.alloc (.cells (wksCells knR).toArray 64)
  have B15 : Below w14.heap.size w14 ((w14.alloc (.cells (wksCells knU).toArray 64)).alloc (.cells (wksCells knR).toArray 64)) := by go_grown
  refine (sameSt A12 (some ⟨w14.heap.size, 0, none⟩) 4 4 c12 4 knU knU _ (by omega) (by omega) (RU.out.up (bvia B14 B15)) (has_rdW K1') rfl rfl).mono ?_
  rintro e w16 ⟨rfl, hb1⟩
  rw [knUU]
  have B16 : Below w12.heap.size w12 w16 := bvia (bvia B14 B15) hb1
  have RK := Lib.hid ((has_rdW K2).up hb1)
  clear hb1 K1 K2 K1' B14 B15
  go_wp2_with fail
  refine (sameSt A13 (some ⟨w14.heap.size + 1, 0, none⟩) 4 4 c13 4 knR knR _ (by omega) (by omega) (RR.out.up B16) RK.out rfl rfl).mono ?_
  rintro e w17 ⟨rfl, hb1⟩
  rw [knRR]
  have B17 := bvia b12 (bvia B16 hb1)
  clear hb1 B16
  go_wp2_with fail
  refine (AWK.out _).mono ?_
  rintro e w18 ⟨rfl, hb1⟩
  go_wp2
  go_ret
  exact ⟨rfl, bvia B17 hb1⟩
end Go.Proofs.Ytnjenggijmbhcaa
