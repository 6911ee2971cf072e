/-
  Contract of torchonref28.both.
-/
import Derived.Test.YtnjenggijmbhcaaVK12
import Derived.Test.YtnjenggijmbhcaaVK26
import Derived.Test.YtnjenggijmbhcaaVK33
import Derived.Test.YtnjenggijmbhcaaVK5
import Derived.Test.YtnjenggijmbhcaaVP2
import Derived.Deep.RegionHeld3
namespace Go.Proofs.Ytnjenggijmbhcaa
open Go.RowKit
theorem infoWk28 : (Try.prog.info? 26).map (fun i => (i.zero, i.size, i.bytes)) = some (some (.agg #[.int .i64 0, .int .i64 0, .string ⟨#[]⟩]), 3, 32) := by kernel_rfl
theorem new3 (V : World) (a1 : Array Value) (t1 : TypeId) (a2 : Array Value) (t2 : TypeId) (a3 : Array Value) (t3 : TypeId) :
    Has (((V.alloc (.cells a1 t1)).alloc (.cells a2 t2)).alloc (.cells a3 t3)).drew V.heap.size t1 a1.toList ∧ Has (((V.alloc (.cells a1 t1)).alloc (.cells a2 t2)).alloc (.cells a3 t3)).drew (V.heap.size + 1) t2 a2.toList ∧ Has (((V.alloc (.cells a1 t1)).alloc (.cells a2 t2)).alloc (.cells a3 t3)).drew (V.heap.size + 2) t3 a3.toList ∧ Below V.heap.size V (((V.alloc (.cells a1 t1)).alloc (.cells a2 t2)).alloc (.cells a3 t3)).drew := by
  have h1 : Has (V.alloc (.cells a1 t1)) V.heap.size t1 a1.toList := Has.new (by simp)
  have h2 : Has ((V.alloc (.cells a1 t1)).alloc (.cells a2 t2)) (V.heap.size + 1) t2 a2.toList := by
    have := Has.new (w := V.alloc (.cells a1 t1)) (arr := a2) (t := t2) (cs := a2.toList) (by simp)
    rwa [World.size_alloc] at this
  have h3 : Has (((V.alloc (.cells a1 t1)).alloc (.cells a2 t2)).alloc (.cells a3 t3)) (V.heap.size + 2) t3 a3.toList := by
    have := Has.new (w := (V.alloc (.cells a1 t1)).alloc (.cells a2 t2)) (arr := a3) (t := t3) (cs := a3.toList) (by simp)
    rwa [World.size_alloc, World.size_alloc] at this
  exact ⟨((h1.alloc _).alloc _).drew, (h2.alloc _).drew, h3.drew, by go_grown⟩
theorem has_own1 {W : World} {bl base : Nat} {k b : Int} {s : ByteArray} (h : Has W bl 26 [.int .i64 k, .int .i64 b, .string s]) (hb : base ≤ bl) : W.ownsRow base 26 3 (.slice (some ⟨bl, 0, none⟩) 1 1) 1 (wksCells [⟨k, b, s⟩]) :=
  ⟨rfl, .inr ⟨bl, 1, _, rfl, hb, h, Nat.le_refl _, by unfold maxLen; omega, rfl, rfl⟩⟩
theorem own_set28 {w : World} {base : Nat} {e : TypeId} {size n g : Nat} {v : Value} {xs : List Value} (h : w.ownsRow base e size v n xs) (hne : v.ownBlock ≠ some g) (i : Nat) (u : Value) : (w.setCell ⟨g, i, none⟩ u).ownsRow base e size v n xs := (But.set g w i u).own h hne
theorem farGrow {w a b : World} {S : List Nat} {row : Option Nat} (h : Far w S a) (hg : a.grownBy b row) (hr : ∀ r, row = some r → w.heap.size ≤ r ∨ r ∈ S) : Far w S b :=
  ⟨hg.os.trans h.os, hg.tape.trans h.tape, hg.output.trans h.output, Nat.le_trans h.size hg.size, fun i hi hn => (hg.block i (Nat.lt_of_lt_of_le hi h.size) (fun e => by
    rcases hr i e.symm with h1 | h1
    · omega
    · exact hn h1)).trans (h.block i hi hn)⟩
theorem fin28 (w wo : World) (g2 g3 : Nat) (p : Int) (A1 : Option Addr) (n1 c1 : Nat) (A2 : Option Addr) (n2 c2 : Nat) (us vs : List Wk) (B1 B2 : Nat) (h2 : Has wo g2 24 [.int .i64 0, .slice none 0 0]) (h3 : Has wo g3 24 [.int .i64 0, .slice none 0 0]) (hne : g2 ≠ g3)
    (OU : wo.ownsRow B1 26 3 (.slice A1 n1 c1) n1 (wksCells us)) (OR : wo.ownsRow B2 26 3 (.slice A2 n2 c2) n2 (wksCells vs)) (HB : Below w.heap.size w wo) (hb2 : w.heap.size ≤ g2) (hb3 : w.heap.size ≤ g3) :
    let W := ((((wo.setCell ⟨g2, 0, none⟩ (.int .i64 p)).setCell ⟨g2, 1, none⟩ (.slice A1 n1 c1)).setCell ⟨g3, 0, none⟩ (.int .i64 p)).setCell ⟨g3, 1, none⟩ (.slice A2 n2 c2)).drew
    Has W g2 24 [.int .i64 p, .slice A1 n1 c1] ∧ Has W g3 24 [.int .i64 p, .slice A2 n2 c2] ∧ RdW W W.heap.size A1 us ∧ RdW W W.heap.size A2 vs ∧ Below w.heap.size w W := by
  have u2 := h2.ne_own OU (by decide)
  have u3 := h3.ne_own OU (by decide)
  have r2 := h2.ne_own OR (by decide)
  have r3 := h3.ne_own OR (by decide)
  refine ⟨?_, ?_, ?_, ?_, ?_⟩
  · exact ((((h2.set 0 _).set 1 _).far hne 0 _).far hne 1 _).drew
  · exact ((((h3.far (Ne.symm hne) 0 _).far (Ne.symm hne) 1 _).set 0 _).set 1 _).drew
  · exact own_rdW (own_set28 (own_set28 (own_set28 (own_set28 OU u2 0 (.int .i64 p)) u2 1 (.slice A1 n1 c1)) u3 0 (.int .i64 p)) u3 1 (.slice A2 n2 c2)).drew
  · exact own_rdW (own_set28 (own_set28 (own_set28 (own_set28 OR r2 0 (.int .i64 p)) r2 1 (.slice A1 n1 c1)) r3 0 (.int .i64 p)) r3 1 (.slice A2 n2 c2)).drew
  · exact ((((HB.setCell (p := ⟨g2, 0, none⟩) hb2 _).setCell (p := ⟨g2, 1, none⟩) hb2 _).setCell (p := ⟨g3, 0, none⟩) hb3 _).setCell (p := ⟨g3, 1, none⟩) hb3 _).drew
def RetB (p : Int) (us vs : List Wk) (w : World) (e : Ending) (w' : World) : Prop := ∃ A1 n1 c1 A2 n2 c2, e = .returned (.tuple #[.agg #[.int .i64 p, .slice A1 n1 c1], .agg #[.int .i64 p, .slice A2 n2 c2]]) ∧ RdW w' w'.heap.size A1 us ∧ us.length = n1 ∧ n1 ≤ c1 ∧ c1 ≤ 9223372036854775807 ∧ RdW w' w'.heap.size A2 vs ∧ vs.length = n2 ∧ n2 ≤ c2 ∧ c2 ≤ 9223372036854775807 ∧ Below w.heap.size w w'
set_option maxRecDepth 100000 in
set_option maxHeartbeats 8000000 in
theorem both28 (p k : Int) (s : ByteArray) (A : Option Addr) (n c t b : Nat) (ws : List Wk) (w : World) (hw : RdW w w.heap.size A ws) (hl : ws.length = n) (ht : t < n) (hn : n ≤ 400) (hb : b ≤ 22) (hr : ∀ x ∈ ws, 0 ≤ x.at_ ∧ x.at_ ≤ 22) (hs : ∀ x ∈ ws, x.word.size ≤ 9223372036854775807) :
    Calls Try.prog 59 #[.agg #[.int .i64 p, .slice A n c], .int .i64 (t : Int), .agg #[.int .i64 k, .int .i64 (b : Int), .string s]] w (RetB p (planU ws (abU ws t b n)) (planR ⟨k, (b : Int), s⟩ ws (abU ws t b n)) w) := by
  have HW := Lib.hid hw
  have HL := Lib.hid hl
  have HS := Lib.hid hs
  obtain ⟨W4, hW4⟩ : ∃ W, W = ((((w.alloc (.cells #[.int .i64 p, .slice A n c] 24)).alloc (.cells #[.int .i64 k, .int .i64 (b : Int), .string s] 26)).alloc (.cells #[.int .i64 0, .slice none 0 0] 24)).alloc (.cells #[.int .i64 0, .slice none 0 0] 24)) := ⟨_, rfl⟩
  have B0 : Below w.heap.size w W4 := by rw [hW4]; go_grown
  have K0 : Has W4 w.heap.size 24 [.int .i64 p, .slice A n c] := by rw [hW4]; exact (((Has.new rfl).alloc _).alloc _).alloc _
  have K1 : Has W4 (w.heap.size + 1) 26 [.int .i64 k, .int .i64 (b : Int), .string s] := by
    have h := Has.new (w := w.alloc (.cells #[.int .i64 p, .slice A n c] 24)) (arr := #[.int .i64 k, .int .i64 (b : Int), .string s]) (t := 26) (cs := [.int .i64 k, .int .i64 (b : Int), .string s]) rfl
    rw [World.size_alloc] at h
    rw [hW4]; exact (h.alloc _).alloc _
  have K2 : Has W4 (w.heap.size + 1 + 1) 24 [.int .i64 0, .slice none 0 0] := by
    have h := Has.new (w := (w.alloc (.cells #[.int .i64 p, .slice A n c] 24)).alloc (.cells #[.int .i64 k, .int .i64 (b : Int), .string s] 26)) (arr := #[.int .i64 0, .slice none 0 0]) (t := 24) (cs := [.int .i64 0, .slice none 0 0]) rfl
    simp only [World.size_alloc] at h
    rw [hW4]; exact h.alloc _
  have K3 : Has W4 (w.heap.size + 1 + 1 + 1) 24 [.int .i64 0, .slice none 0 0] := by
    have h := Has.new (w := ((w.alloc (.cells #[.int .i64 p, .slice A n c] 24)).alloc (.cells #[.int .i64 k, .int .i64 (b : Int), .string s] 26)).alloc (.cells #[.int .i64 0, .slice none 0 0] 24)) (arr := #[.int .i64 0, .slice none 0 0]) (t := 24) (cs := [.int .i64 0, .slice none 0 0]) rfl
    simp only [World.size_alloc] at h
    rw [hW4]; exact h
  have CA := Lib.hid (above28 p k (b : Int) s A n c t ws W4 (HW.out.up B0) hl ht hn (by omega) (by omega) hr)
  obtain ⟨L, hL⟩ : ∃ L, L = abU ws t b n := ⟨_, rfl⟩
  rw [← hL] at CA ⊢
  have hLlt : Hid (∀ j ∈ L, j < ws.length) := fun j hj => by rw [hL] at hj; have := abU_lt ws t b n (by omega) j hj; omega
  have hLl : L.length ≤ 400 := by rw [hL]; have := abU_len ws t b n (by omega); omega
  have hLp : 0 < L.length := by rw [hL]; exact abU_pos _ _ _ _
  have HK0 := Lib.hid K0
  have HK1 := Lib.hid K1
  have HK2 := Lib.hid K2
  have HK3 := Lib.hid K3
  have HB0 := Lib.hid B0
  clear hw hl hr hs hL K0 K1 K2 K3 B0
  go_enter Try.func59, Try.ntmps59
  go_wp2_with fail
  rw [← hW4]
  clear hW4
  refine CA.out.mono ?_
  rintro e V ⟨A8, n8, c8, rfl, r8, l8, hn8, hc8, hb8⟩
  have R8 := Lib.hid r8
  have hL8 : L.length = n8 := by rw [← l8, List.length_map]
  have HG := Lib.hid (HK0.out.below hb8 HK0.out.lt)
  have HY := Lib.hid (HK1.out.below hb8 HK1.out.lt)
  have HR6 := Lib.hid (HK2.out.below hb8 HK2.out.lt)
  have HR7 := Lib.hid (HK3.out.below hb8 HK3.out.lt)
  have BV := Lib.hid (bvia HB0.out hb8)
  have hzV : w.heap.size ≤ V.heap.size := BV.out.size
  have s0 : V.cell? ⟨w.heap.size, 0, none⟩ = some (.int .i64 p) := HG.out.cell 0
  have s2 := HG.out.lt
  have y0 : V.cell? ⟨w.heap.size + 1, 0, none⟩ = some (.int .i64 k) := HY.out.cell 0
  have y1 : V.cell? ⟨w.heap.size + 1, 1, none⟩ = some (.int .i64 (b : Int)) := HY.out.cell 1
  have y2 : V.cell? ⟨w.heap.size + 1, 2, none⟩ = some (.string s) := HY.out.cell 2
  have y3 := HY.out.lt
  have ne0 := World.new_ne V ⟨w.heap.size, 0, none⟩ s0
  have ne1 := World.new_ne V ⟨w.heap.size + 1, 0, none⟩ y0
  have ne2 := World.new_ne V ⟨w.heap.size + 1, 1, none⟩ y1
  have ne3 := World.new_ne V ⟨w.heap.size + 1, 2, none⟩ y2
  have HKP : Hid (∀ W : World, Below V.heap.size V W → (W.cell? ⟨w.heap.size, 0, none⟩ = some (.int .i64 p) ∧ W.cell? ⟨w.heap.size + 1, 0, none⟩ = some (.int .i64 k) ∧ W.cell? ⟨w.heap.size + 1, 1, none⟩ = some (.int .i64 (b : Int)) ∧ W.cell? ⟨w.heap.size + 1, 2, none⟩ = some (.string s))) := fun W hW => ⟨(hW.cell s2).trans s0, (hW.cell y3).trans y0, (hW.cell y3).trans y1, (hW.cell y3).trans y2⟩
  clear CA hb8 r8 l8 HK0 HK1 HK2 HK3 HB0
  go_upto_region 2 with (fail)
  go_cut [9, 10] from 13 (fun u v wx => ∃ b9 b10 bl : Nat, u = .pointer (some ⟨b9, 0, none⟩) ∧ v = .pointer (some ⟨b10, 0, none⟩) ∧ V.heap.size ≤ b9 ∧ V.heap.size ≤ b10 ∧ V.heap.size ≤ bl ∧ b9 ≠ b10 ∧ Hid (Has wx b9 24 [.int .i64 p, .slice none 0 0]) ∧ Hid (Has wx b10 24 [.int .i64 p, .slice (some ⟨bl, 0, none⟩) 1 1]) ∧ Hid (wx.ownsRow V.heap.size 26 3 (.slice (some ⟨bl, 0, none⟩) 1 1) 1 (wksCells [⟨k, (b : Int), s⟩])) ∧ Hid (Below V.heap.size V wx))
  case first =>
    go_region_held3 (fun w' => w'.cell? ⟨w.heap.size, 0, none⟩ = some (.int .i64 p) ∧ w'.cell? ⟨w.heap.size + 1, 0, none⟩ = some (.int .i64 k) ∧ w'.cell? ⟨w.heap.size + 1, 1, none⟩ = some (.int .i64 (b : Int)) ∧ w'.cell? ⟨w.heap.size + 1, 2, none⟩ = some (.string s)) (first | exact HKP.out _ (by go_grown) | go_keep) (first | fail)
    all_goals go_wp2
    all_goals go_meet
    all_goals (try (first
      | (have N3 := new3 V #[.int .i64 p, .slice none 0 0] 24 #[.int .i64 p, .slice (some ⟨V.heap.size + 2, 0, none⟩) 1 1] 24 #[.int .i64 k, .int .i64 (b : Int), .string s] 26; exact ⟨V.heap.size, V.heap.size + 1, V.heap.size + 2, rfl, rfl, by omega, by omega, by omega, by omega, Lib.hid N3.1, Lib.hid N3.2.1, Lib.hid (has_own1 N3.2.2.1 (by omega)), Lib.hid N3.2.2.2⟩)
      | (have N3 := new3 V #[.int .i64 p, .slice none 0 0] 24 #[.int .i64 k, .int .i64 (b : Int), .string s] 26 #[.int .i64 p, .slice (some ⟨V.heap.size + 1, 0, none⟩) 1 1] 24; exact ⟨V.heap.size, V.heap.size + 2, V.heap.size + 1, rfl, rfl, by omega, by omega, by omega, by omega, Lib.hid N3.1, Lib.hid N3.2.2.1, Lib.hid (has_own1 N3.2.1 (by omega)), Lib.hid N3.2.2.2⟩)
      | (have N3 := new3 V #[.int .i64 p, .slice (some ⟨V.heap.size + 2, 0, none⟩) 1 1] 24 #[.int .i64 p, .slice none 0 0] 24 #[.int .i64 k, .int .i64 (b : Int), .string s] 26; exact ⟨V.heap.size + 1, V.heap.size, V.heap.size + 2, rfl, rfl, by omega, by omega, by omega, by omega, Lib.hid N3.2.1, Lib.hid N3.1, Lib.hid (has_own1 N3.2.2.1 (by omega)), Lib.hid N3.2.2.2⟩)
      | (have N3 := new3 V #[.int .i64 p, .slice (some ⟨V.heap.size + 1, 0, none⟩) 1 1] 24 #[.int .i64 k, .int .i64 (b : Int), .string s] 26 #[.int .i64 p, .slice none 0 0] 24; exact ⟨V.heap.size + 2, V.heap.size, V.heap.size + 1, rfl, rfl, by omega, by omega, by omega, by omega, Lib.hid N3.2.2.1, Lib.hid N3.1, Lib.hid (has_own1 N3.2.1 (by omega)), Lib.hid N3.2.2.2⟩)
      | (have N3 := new3 V #[.int .i64 k, .int .i64 (b : Int), .string s] 26 #[.int .i64 p, .slice none 0 0] 24 #[.int .i64 p, .slice (some ⟨V.heap.size, 0, none⟩) 1 1] 24; exact ⟨V.heap.size + 1, V.heap.size + 2, V.heap.size, rfl, rfl, by omega, by omega, by omega, by omega, Lib.hid N3.2.1, Lib.hid N3.2.2.1, Lib.hid (has_own1 N3.1 (by omega)), Lib.hid N3.2.2.2⟩)
      | (have N3 := new3 V #[.int .i64 k, .int .i64 (b : Int), .string s] 26 #[.int .i64 p, .slice (some ⟨V.heap.size, 0, none⟩) 1 1] 24 #[.int .i64 p, .slice none 0 0] 24; exact ⟨V.heap.size + 2, V.heap.size + 1, V.heap.size, rfl, rfl, by omega, by omega, by omega, by omega, Lib.hid N3.2.2.1, Lib.hid N3.2.1, Lib.hid (has_own1 N3.1 (by omega)), Lib.hid N3.2.2.2⟩)))
  case rest =>
    obtain ⟨b9, b10, bl, hu, hv, hg9, hg10, hgl, hne, HU, HD, HO, HBc⟩ := hcut
    subst hu
    subst hv
    have hzc := HBc.out.size
    have hbl : bl < wc.heap.size := by have h := HO.out.lt bl rfl; exact h.2
    have hb9 := HU.out.lt
    have hb10 := HD.out.lt
    have RWC : Hid (∀ (Z : World) (S : List Nat), Far wc S Z → (∀ r ∈ S, V.heap.size ≤ r) → Below V.heap.size V Z) := fun Z S hZ hS => HBc.out.trans (hZ.below' (by omega) hS)
    have HF : Hid (∀ Z : World, Below V.heap.size V Z → Z.cell? ⟨w.heap.size, 1, none⟩ = some (.slice A n c) ∧ RdI Z Z.heap.size A8 (L.map (fun (j : Nat) => (j : Int))) ∧ RdW Z Z.heap.size A ws) := fun Z hZ => ⟨(HG.out.below hZ HG.out.lt).cell 1, R8.out.up hZ, (HW.out.up BV.out).up hZ⟩
    have i1 : IntKind.i64.wrap ((n8 : Int) - 1) = (n8 : Int) - 1 := IntWalk.i64_in _ (by omega)
    clear s0 s2 y0 y1 y2 y3 ne0 ne1 ne2 ne3 HKP
    go_wp2
    go_loopw [11] (fun iv wr => ∃ (j : Nat) (A1 : Option Addr) (c1 : Nat), j ≤ n8 ∧ iv = .int .i64 ((n8 : Int) - 1 - (j : Int)) ∧ Hid (Has wr b9 24 [.int .i64 p, .slice A1 j c1]) ∧ Hid (wr.ownsRow wc.heap.size 26 3 (.slice A1 j c1) j (wksCells ((planU ws L).take j))) ∧ Hid (Far wc [b9] wr)) (fun iv _ => (intOf iv + 1).toNat)
    case atStart => exact ⟨0, none, 0, Nat.zero_le _, by simp, HU, World.ownsRow_nil _ _ _ _, Far.refl _ _⟩
    case round =>
      obtain ⟨j, A1, c1, hj, rfl, HK, HO1, HFA⟩ := hrel
      obtain ⟨wo, rfl⟩ : ∃ wo : World, wo = wr := ⟨_, rfl⟩
      have hzo : wc.heap.size ≤ wo.heap.size := HFA.out.size
      by_cases hjl : j < n8
      · have jk : (0 : Int) ≤ (n8 : Int) - 1 - (j : Int) := by omega
        have jm : (n8 : Int) - 1 - (j : Int) = ((n8 - 1 - j : Nat) : Int) := by omega
        obtain ⟨q, hq⟩ : ∃ q, q = n8 - 1 - j := ⟨_, rfl⟩
        rw [← hq] at jm
        obtain ⟨kj, hkj⟩ := get_of_lt (l := L) (k := q) (by omega)
        have hkl := hLlt.out kj (List.mem_of_getElem? hkj)
        obtain ⟨x, hx⟩ := get_of_lt (l := ws) (k := kj) hkl
        have hPU : (planU ws L)[j]? = some (undoW x) := by
          unfold planU
          rw [List.getElem?_map, List.getElem?_reverse (by omega), hL8, show n8 - 1 - j = q from hq.symm, hkj]
          show some (undoW (wkA ws kj)) = _
          unfold wkA; rw [hx]
        have HT : Hid ((planU ws L).take (j + 1) = (planU ws L).take j ++ [undoW x]) := by show _ = _; rw [List.take_add_one, hPU]; rfl
        obtain ⟨g1, g2, g3⟩ := HF.out wo (RWC.out wo [b9] HFA.out (by simp; exact hg9))
        obtain ⟨ba, oa, hA8, _, c0⟩ := g2 q (kj : Int) (by rw [List.getElem?_map, hkj]; rfl)
        obtain ⟨bx, ox, hAx, _, d0, d1, d2⟩ := g3 kj x hx
        subst hA8 hAx
        have HX : Hid (∀ Z : World, Far wc [b9] Z → Z.cell? ⟨w.heap.size, 1, none⟩ = some (.slice (some ⟨bx, ox, none⟩) n c) ∧ Z.cell? ⟨ba, oa + q, none⟩ = some (.int .i64 (kj : Int)) ∧ Z.cell? ⟨bx, ox + kj * 3, none⟩ = some (.int .i64 x.kind) ∧ Z.cell? ⟨bx, ox + kj * 3 + 1, none⟩ = some (.int .i64 x.at_) ∧ Z.cell? ⟨bx, ox + kj * 3 + 2, none⟩ = some (.string x.word)) := fun Z hZ => by
          obtain ⟨h1, h2, h3⟩ := HF.out Z (RWC.out Z [b9] hZ (by simp; exact hg9))
          obtain ⟨ba', oa', e1, _, u0⟩ := h2 q (kj : Int) (by rw [List.getElem?_map, hkj]; rfl)
          obtain ⟨bx', ox', e2, _, v0, v1, v2⟩ := h3 kj x hx
          injection e1 with e1; injection e1 with e1 e3
          injection e2 with e2; injection e2 with e2 e4
          subst e1 e2 e3 e4
          exact ⟨h1, u0, v0, v1, v2⟩
        have hxs := HS.out x (mem_of_get hx)
        have CUN := Lib.hid (fun W => undoing28 x.kind x.at_ x.word W hxs)
        have b1 : wo.cell? ⟨b9, 1, none⟩ = some (.slice A1 j c1) := HK.out.cell 1
        have qn : (q : Int) < (n8 : Int) := by omega
        have kn : (kj : Int) < (n : Int) := by rw [← HL.out]; omega
        have i2 : IntKind.i64.wrap ((q : Int) - 1) = (q : Int) - 1 := IntWalk.i64_in _ (by omega)
        have i3 : (q : Int) - 1 = (n8 : Int) - 1 - ((j + 1 : Nat) : Int) := by omega
        have HI3 := Lib.hid i3
        have HQ := Lib.hid hq
        have hj1 : j + 1 ≤ 1000000000 := by omega
        rw [jm] at jk ⊢
        have HJM := Lib.hid jm
        clear hkj hx hPU jm hq hkl i3
        go_wp2
        refine wp_region_noPanic ?_
        refine wp_region_B (fun b w' => w'.cell? ⟨w.heap.size, 1, none⟩ = some (.slice (some ⟨bx, ox, none⟩) n c) ∧ w'.cell? ⟨ba, oa + q, none⟩ = some (.int .i64 (kj : Int)) ∧ w'.cell? ⟨bx, ox + kj * 3, none⟩ = some (.int .i64 x.kind) ∧ w'.cell? ⟨bx, ox + kj * 3 + 1, none⟩ = some (.int .i64 x.at_) ∧ w'.cell? ⟨bx, ox + kj * 3 + 2, none⟩ = some (.string x.word) ∧ (b = false → w'.cell? ⟨b9, 1, none⟩ = some (.slice A1 j c1))) 14 (by kernel_rfl) ?_
        have hSSp : (fun b w' => w'.cell? ⟨w.heap.size, 1, none⟩ = some (.slice (some ⟨bx, ox, none⟩) n c) ∧ w'.cell? ⟨ba, oa + q, none⟩ = some (.int .i64 (kj : Int)) ∧ w'.cell? ⟨bx, ox + kj * 3, none⟩ = some (.int .i64 x.kind) ∧ w'.cell? ⟨bx, ox + kj * 3 + 1, none⟩ = some (.int .i64 x.at_) ∧ w'.cell? ⟨bx, ox + kj * 3 + 2, none⟩ = some (.string x.word) ∧ (b = false → w'.cell? ⟨b9, 1, none⟩ = some (.slice A1 j c1))) false (wo.drew) := ⟨g1, c0, d0, d1, d2, fun _ => b1⟩
        refine wpAnyB_take (i := 0) (oi := _) (v := ?vvp1) (fun w' => w'.cell? ⟨w.heap.size, 1, none⟩ = some (.slice (some ⟨bx, ox, none⟩) n c) ∧ w'.cell? ⟨ba, oa + q, none⟩ = some (.int .i64 (kj : Int)) ∧ w'.cell? ⟨bx, ox + kj * 3, none⟩ = some (.int .i64 x.kind) ∧ w'.cell? ⟨bx, ox + kj * 3 + 1, none⟩ = some (.int .i64 x.at_) ∧ w'.cell? ⟨bx, ox + kj * 3 + 2, none⟩ = some (.string x.word)) rfl (by kernel_rfl) (by kernel_rfl) (by kernel_rfl) (by kernel_rfl) (by rfl) (fun _ h => ⟨h.1, h.2.1, h.2.2.1, h.2.2.2.1, h.2.2.2.2.1⟩) (.inl fun _ h => ⟨h.1, h.2.1, h.2.2.1, h.2.2.2.1, h.2.2.2.2.1⟩) (fun _ _ _ h => h) (.inl ⟨by rfl, ?hyp1⟩) hSSp ?_
        case hyp1 =>
          intro w' hSw
          try dsimp only at hSw
          go_simp
          all_goals with_reducible rfl
        try simp only [Act.put, List.setIfInBounds_toArray]
        refine wpAnyB_take (i := 1) (oi := _) (v := ?vvp2) (fun w' => w'.cell? ⟨w.heap.size, 1, none⟩ = some (.slice (some ⟨bx, ox, none⟩) n c) ∧ w'.cell? ⟨ba, oa + q, none⟩ = some (.int .i64 (kj : Int)) ∧ w'.cell? ⟨bx, ox + kj * 3, none⟩ = some (.int .i64 x.kind) ∧ w'.cell? ⟨bx, ox + kj * 3 + 1, none⟩ = some (.int .i64 x.at_) ∧ w'.cell? ⟨bx, ox + kj * 3 + 2, none⟩ = some (.string x.word) ∧ w'.cell? ⟨b9, 1, none⟩ = some (.slice A1 j c1)) rfl (by kernel_rfl) (by kernel_rfl) (by kernel_rfl) (by kernel_rfl) (by rfl) (fun _ h => ⟨h.1, h.2.1, h.2.2.1, h.2.2.2.1, h.2.2.2.2.1, h.2.2.2.2.2 rfl⟩) (.inr (by kernel_rfl)) (fun _ _ _ h => h) (.inl ⟨by rfl, ?hyp2⟩) hSSp ?_
        case hyp2 =>
          intro w' hSw
          try dsimp only at hSw
          go_simp
          all_goals with_reducible rfl
        try simp only [Act.put]
        refine wpAnyB_take (i := 2) (oi := _) (v := ?vvp3) (fun w' => w'.cell? ⟨w.heap.size, 1, none⟩ = some (.slice (some ⟨bx, ox, none⟩) n c) ∧ w'.cell? ⟨ba, oa + q, none⟩ = some (.int .i64 (kj : Int)) ∧ w'.cell? ⟨bx, ox + kj * 3, none⟩ = some (.int .i64 x.kind) ∧ w'.cell? ⟨bx, ox + kj * 3 + 1, none⟩ = some (.int .i64 x.at_) ∧ w'.cell? ⟨bx, ox + kj * 3 + 2, none⟩ = some (.string x.word)) rfl (by kernel_rfl) (by kernel_rfl) (by kernel_rfl) (by kernel_rfl) (by rfl) (fun _ h => ⟨h.1, h.2.1, h.2.2.1, h.2.2.2.1, h.2.2.2.2.1⟩) (.inl fun _ h => ⟨h.1, h.2.1, h.2.2.1, h.2.2.2.1, h.2.2.2.2.1⟩) (fun _ _ _ h => h) (.inl ⟨by rfl, ?hyp3⟩) hSSp ?_
        case hyp3 =>
          intro w' hSw
          try dsimp only at hSw
          go_simp
          all_goals with_reducible rfl
        try simp only [Act.put]
        refine wpAnyB_take (i := 3) (oi := _) (v := ?vvp4) (fun w' => w'.cell? ⟨w.heap.size, 1, none⟩ = some (.slice (some ⟨bx, ox, none⟩) n c) ∧ w'.cell? ⟨ba, oa + q, none⟩ = some (.int .i64 (kj : Int)) ∧ w'.cell? ⟨bx, ox + kj * 3, none⟩ = some (.int .i64 x.kind) ∧ w'.cell? ⟨bx, ox + kj * 3 + 1, none⟩ = some (.int .i64 x.at_) ∧ w'.cell? ⟨bx, ox + kj * 3 + 2, none⟩ = some (.string x.word)) rfl (by kernel_rfl) (by kernel_rfl) (by kernel_rfl) (by kernel_rfl) (by rfl) (fun _ h => ⟨h.1, h.2.1, h.2.2.1, h.2.2.2.1, h.2.2.2.2.1⟩) (.inl fun _ h => ⟨h.1, h.2.1, h.2.2.1, h.2.2.2.1, h.2.2.2.2.1⟩) (fun _ _ _ h => h) (.inl ⟨by rfl, ?hyp4⟩) hSSp ?_
        case hyp4 =>
          intro w' hSw
          try dsimp only at hSw
          go_simp
          all_goals with_reducible rfl
        try simp only [Act.put]
        refine wpAnyB_take (i := 4) (oi := _) (v := ?vvp5) (fun w' => w'.cell? ⟨w.heap.size, 1, none⟩ = some (.slice (some ⟨bx, ox, none⟩) n c) ∧ w'.cell? ⟨ba, oa + q, none⟩ = some (.int .i64 (kj : Int)) ∧ w'.cell? ⟨bx, ox + kj * 3, none⟩ = some (.int .i64 x.kind) ∧ w'.cell? ⟨bx, ox + kj * 3 + 1, none⟩ = some (.int .i64 x.at_) ∧ w'.cell? ⟨bx, ox + kj * 3 + 2, none⟩ = some (.string x.word)) rfl (by kernel_rfl) (by kernel_rfl) (by kernel_rfl) (by kernel_rfl) (by rfl) (fun _ h => ⟨h.1, h.2.1, h.2.2.1, h.2.2.2.1, h.2.2.2.2.1⟩) (.inl fun _ h => ⟨h.1, h.2.1, h.2.2.1, h.2.2.2.1, h.2.2.2.2.1⟩) (fun _ _ _ h => h) (.inl ⟨by rfl, ?hyp5⟩) hSSp ?_
        case hyp5 =>
          intro w' hSw
          try dsimp only at hSw
          go_simp
          all_goals with_reducible rfl
        try simp only [Act.put]
        refine wpAnyB_take (i := 5) (oi := _) (v := ?vvp6) (fun w' => w'.cell? ⟨w.heap.size, 1, none⟩ = some (.slice (some ⟨bx, ox, none⟩) n c) ∧ w'.cell? ⟨ba, oa + q, none⟩ = some (.int .i64 (kj : Int)) ∧ w'.cell? ⟨bx, ox + kj * 3, none⟩ = some (.int .i64 x.kind) ∧ w'.cell? ⟨bx, ox + kj * 3 + 1, none⟩ = some (.int .i64 x.at_) ∧ w'.cell? ⟨bx, ox + kj * 3 + 2, none⟩ = some (.string x.word)) rfl (by kernel_rfl) (by kernel_rfl) (by kernel_rfl) (by kernel_rfl) (by rfl) (fun _ h => ⟨h.1, h.2.1, h.2.2.1, h.2.2.2.1, h.2.2.2.2.1⟩) (.inl fun _ h => ⟨h.1, h.2.1, h.2.2.1, h.2.2.2.1, h.2.2.2.2.1⟩) (fun _ _ _ h => h) (.inl ⟨by rfl, ?hyp6⟩) hSSp ?_
        case hyp6 =>
          intro w' hSw
          try dsimp only at hSw
          go_simp
          all_goals with_reducible rfl
        try simp only [Act.put]
        refine wpAnyB_take (i := 6) (oi := _) (v := ?vvp7) (fun w' => w'.cell? ⟨w.heap.size, 1, none⟩ = some (.slice (some ⟨bx, ox, none⟩) n c) ∧ w'.cell? ⟨ba, oa + q, none⟩ = some (.int .i64 (kj : Int)) ∧ w'.cell? ⟨bx, ox + kj * 3, none⟩ = some (.int .i64 x.kind) ∧ w'.cell? ⟨bx, ox + kj * 3 + 1, none⟩ = some (.int .i64 x.at_) ∧ w'.cell? ⟨bx, ox + kj * 3 + 2, none⟩ = some (.string x.word)) rfl (by kernel_rfl) (by kernel_rfl) (by kernel_rfl) (by kernel_rfl) (by rfl) (fun _ h => ⟨h.1, h.2.1, h.2.2.1, h.2.2.2.1, h.2.2.2.2.1⟩) (.inl fun _ h => ⟨h.1, h.2.1, h.2.2.1, h.2.2.2.1, h.2.2.2.2.1⟩) (fun _ _ _ h => h) (.inl ⟨by rfl, ?hyp7⟩) hSSp ?_
        case hyp7 =>
          intro w' hSw
          try dsimp only at hSw
          go_simp
          all_goals with_reducible rfl
        try simp only [Act.put]
        refine wpAnyB_take (i := 7) (oi := _) (v := ?vvp8) (fun w' => w'.cell? ⟨w.heap.size, 1, none⟩ = some (.slice (some ⟨bx, ox, none⟩) n c) ∧ w'.cell? ⟨ba, oa + q, none⟩ = some (.int .i64 (kj : Int)) ∧ w'.cell? ⟨bx, ox + kj * 3, none⟩ = some (.int .i64 x.kind) ∧ w'.cell? ⟨bx, ox + kj * 3 + 1, none⟩ = some (.int .i64 x.at_) ∧ w'.cell? ⟨bx, ox + kj * 3 + 2, none⟩ = some (.string x.word)) rfl (by kernel_rfl) (by kernel_rfl) (by kernel_rfl) (by kernel_rfl) (by rfl) (fun _ h => ⟨h.1, h.2.1, h.2.2.1, h.2.2.2.1, h.2.2.2.2.1⟩) (.inl fun _ h => ⟨h.1, h.2.1, h.2.2.1, h.2.2.2.1, h.2.2.2.2.1⟩) (fun _ _ _ h => h) (.inl ⟨by rfl, ?hyp8⟩) hSSp ?_
        case hyp8 =>
          intro w' hSw
          try dsimp only at hSw
          go_simp
          all_goals with_reducible rfl
        try simp only [Act.put]
        refine wpAnyB_take (i := 8) (oi := _) (v := ?vvp9) (fun w' => w'.cell? ⟨w.heap.size, 1, none⟩ = some (.slice (some ⟨bx, ox, none⟩) n c) ∧ w'.cell? ⟨ba, oa + q, none⟩ = some (.int .i64 (kj : Int)) ∧ w'.cell? ⟨bx, ox + kj * 3, none⟩ = some (.int .i64 x.kind) ∧ w'.cell? ⟨bx, ox + kj * 3 + 1, none⟩ = some (.int .i64 x.at_) ∧ w'.cell? ⟨bx, ox + kj * 3 + 2, none⟩ = some (.string x.word)) rfl (by kernel_rfl) (by kernel_rfl) (by kernel_rfl) (by kernel_rfl) (by rfl) (fun _ h => ⟨h.1, h.2.1, h.2.2.1, h.2.2.2.1, h.2.2.2.2.1⟩) (.inl fun _ h => ⟨h.1, h.2.1, h.2.2.1, h.2.2.2.1, h.2.2.2.2.1⟩) (fun _ _ _ h => h) (.inl ⟨by rfl, ?hyp9⟩) hSSp ?_
        case hyp9 =>
          intro w' hSw
          try dsimp only at hSw
          go_simp
          all_goals with_reducible rfl
        try simp only [Act.put]
        refine wpAnyB_take (i := 9) (oi := _) (v := ?vvp10) (fun w' => w'.cell? ⟨w.heap.size, 1, none⟩ = some (.slice (some ⟨bx, ox, none⟩) n c) ∧ w'.cell? ⟨ba, oa + q, none⟩ = some (.int .i64 (kj : Int)) ∧ w'.cell? ⟨bx, ox + kj * 3, none⟩ = some (.int .i64 x.kind) ∧ w'.cell? ⟨bx, ox + kj * 3 + 1, none⟩ = some (.int .i64 x.at_) ∧ w'.cell? ⟨bx, ox + kj * 3 + 2, none⟩ = some (.string x.word)) rfl (by kernel_rfl) (by kernel_rfl) (by kernel_rfl) (by kernel_rfl) (by rfl) (fun _ h => ⟨h.1, h.2.1, h.2.2.1, h.2.2.2.1, h.2.2.2.2.1⟩) (.inl fun _ h => ⟨h.1, h.2.1, h.2.2.1, h.2.2.2.1, h.2.2.2.2.1⟩) (fun _ _ _ h => h) (.inl ⟨by rfl, ?hyp10⟩) hSSp ?_
        case hyp10 =>
          intro w' hSw
          try dsimp only at hSw
          go_simp
          all_goals with_reducible rfl
        try simp only [Act.put]
        refine wpAnyB_one (i := 10) false rfl (by kernel_rfl) (by kernel_rfl) ?_
        intro KK hKK
        go_simp
        refine (CUN.out _).mono ?_
        rintro e w7 ⟨rfl, hb7⟩
        dsimp only
        have D7 : Far wc [b9] w7 := HFA.out.drew.next hb7
        have K7 := HK.out.drew.below hb7 HK.out.lt
        have O7 := own_below (w := wo.drew) HO1.out hb7
        have f7 := HX.out w7 D7
        have n7 : wc.heap.size ≤ w7.heap.size := D7.size
        clear hb7
        refine hKK.out _ _ ⟨f7.1, f7.2.1, f7.2.2.1, f7.2.2.2.1, f7.2.2.2.2, fun _ => K7.cell 1⟩ ?_
        clear hKK KK
        try simp only [Act.put, List.setIfInBounds_toArray, List.set_cons_zero, List.set_cons_succ]
        refine wpAnyB_one (i := 11) false rfl (by kernel_rfl) (by kernel_rfl) ?_
        intro KK hKK
        go_simp
        have D8 : Far wc [b9] (w7.alloc (.cells #[.int .i64 x.kind, .int .i64 x.at_, .string (invW x.word)] 26)) := D7.next ((Below.refl _ _).alloc (Nat.le_refl _) _)
        have K8 := K7.alloc (.cells #[.int .i64 x.kind, .int .i64 x.at_, .string (invW x.word)] 26)
        have O8 := O7.alloc (.cells #[.int .i64 x.kind, .int .i64 x.at_, .string (invW x.word)] 26)
        have f8 := HX.out _ D8
        have news8 := news_wk w7 (undoW x) 26
        have n8' : wc.heap.size ≤ (w7.alloc (.cells #[.int .i64 x.kind, .int .i64 x.at_, .string (invW x.word)] 26)).heap.size := D8.size
        refine hKK.out _ _ ⟨f8.1, f8.2.1, f8.2.2.1, f8.2.2.2.1, f8.2.2.2.2, fun _ => K8.cell 1⟩ ?_
        clear hKK KK
        try simp only [Act.put, List.setIfInBounds_toArray, List.set_cons_zero, List.set_cons_succ]
        refine wpAnyB_one (i := 12) false rfl (by kernel_rfl) (by kernel_rfl) ?_
        intro KK hKK
        refine step_appN rfl (.tmp 33) (.tmp 43) _ rfl wc.heap.size 26 (.agg #[.int .i64 0, .int .i64 0, .string ⟨#[]⟩]) 3 32 Try.underlying22 infoWk28 rfl (by omega) (by omega) (.slice A1 j c1) j (wksCells ((planU ws L).take j)) rfl O8 ⟨w7.heap.size, 0, none⟩ 1 1 (wkCells (undoW x)) rfl rfl (fun j u hu => by rw [Addr.add_lit, Nat.zero_add]; exact news8 j u hu) (one_wk _) hj1 n8' ?_
        intro v9 w9 ho9 hg9 _ _
        obtain ⟨A9', c9', hv9⟩ := own_form ho9
        subst hv9
        have K9 := K8.same (hg9.block b9 K8.lt (fun e => (K8.ne_own O8 (by decide)) e.symm))
        have D9 : Far wc [b9] w9 := farGrow D8 hg9 (fun r hr => .inl (O8.lt r hr).1)
        have f9 := HX.out w9 D9
        refine hKK.out _ _ ⟨f9.1, f9.2.1, f9.2.2.1, f9.2.2.2.1, f9.2.2.2.2, fun _ => K9.cell 1⟩ ?_
        clear hKK KK
        try simp only [Act.put, List.setIfInBounds_toArray]
        refine wpAnyB_one (i := 13) false rfl (by kernel_rfl) (by kernel_rfl) ?_
        intro KK hKK
        have g9' := K9.lt
        go_simp
        refine hKK.out _ _ ⟨f9.1, f9.2.1, f9.2.2.1, f9.2.2.2.1, f9.2.2.2.2, fun _ => K9.cell 1⟩ ?_
        clear hKK KK
        try simp only [Act.put, List.setIfInBounds_toArray, List.set_cons_zero, List.set_cons_succ]
        refine wpAnyB_one (i := 14) true rfl (by kernel_rfl) (by kernel_rfl) ?_
        intro KK hKK
        have y0 := K9.cell 1
        have y1 := K9.free 1
        have y2 := K9.lt
        go_simp
        have f10 := HX.out _ (D9.but (But.set b9 w9 1 (.slice A9' (j + 1) c9')) (.inr (by simp)))
        refine hKK.out _ _ ⟨f10.1, f10.2.1, f10.2.2.1, f10.2.2.2.1, f10.2.2.2.2, fun hh => by cases hh⟩ ?_
        clear hKK KK
        try simp only [Act.put, List.setIfInBounds_toArray, List.set_cons_zero, List.set_cons_succ]
        refine wpAnyB_done (by kernel_rfl) (NoPanic.normal ?_) _
        go_wp2
        go_roundw
        case rel =>
          refine ⟨j + 1, A9', c9', by omega, ?_, K9.set 1 _, ?_, ?_⟩
          · rw [HI3.out]
          · show World.ownsRow _ _ _ _ _ _ _
            rw [HT.out, wksCells_app]
            exact (But.set b9 w9 1 (.slice A9' (j + 1) c9')).own ho9 (K9.ne_own ho9 (by decide))
          · exact D9.but (But.set b9 w9 1 (.slice A9' (j + 1) c9')) (.inr (by simp))
        case measure => first | (simp [intOf]; done) | (simp [intOf]; omega)
      · obtain rfl : n8 = j := by omega
        have jk : ¬ (0 : Int) ≤ (n8 : Int) - 1 - (n8 : Int) := by omega
        have HE1 : Hid ((planU ws L).take n8 = planU ws L) := by show _ = _; rw [List.take_of_length_le (by rw [planU_len, hL8]; exact Nat.le_refl _)]
        have hbl9 : bl ≠ b9 := fun e => (HU.out.ne_own HO.out (by decide)) (by rw [e]; rfl)
        have hbl10 : bl ≠ b10 := fun e => (HD.out.ne_own HO.out (by decide)) (by rw [e]; rfl)
        have HD1 := Lib.hid (HFA.out.has HD.out (by simp; omega))
        have HOB : Hid (wo.ownsRow V.heap.size 26 3 (.slice (some ⟨bl, 0, none⟩) 1 1) 1 (wksCells ((planR ⟨k, (b : Int), s⟩ ws L).take 1))) := own_same HO.out (fun g hg => by
          have e : bl = g := Option.some.inj (show some bl = some g from hg)
          subst e
          exact HFA.out.block bl hbl (by simp; omega))
        have HVD := Lib.hid (RWC.out wo [b9] HFA.out (by simp; exact hg9))
        obtain ⟨wd, hwd⟩ : ∃ wd : World, wd = wo := ⟨_, rfl⟩
        clear jk
        rw [show ((n8 : Int) - 1 - (n8 : Int)) = -1 by omega]
        go_wp2
        rw [← hwd] at HK HO1 HFA HD1 HOB HVD hzo
        simp only [← hwd]
        clear hwd
        go_loopw [12] (fun iv wr => ∃ (i : Nat) (A2 : Option Addr) (c2 : Nat), 1 ≤ i ∧ i ≤ n8 ∧ iv = .int .i64 (i : Int) ∧ Hid (Has wr b10 24 [.int .i64 p, .slice A2 i c2]) ∧ Hid (wr.ownsRow V.heap.size 26 3 (.slice A2 i c2) i (wksCells ((planR ⟨k, (b : Int), s⟩ ws L).take i))) ∧ Hid (Far wd [b10, bl] wr) ∧ Hid (∀ r, (Value.slice A2 i c2).ownBlock = some r → r = bl ∨ wd.heap.size ≤ r)) (fun iv _ => n8 - (intOf iv).toNat)
        case atStart => exact ⟨1, some ⟨bl, 0, none⟩, 1, Nat.le_refl _, by omega, rfl, HD1, HOB, Far.refl _ _, fun r hr => .inl (Option.some.inj (show some bl = some r from hr)).symm⟩
        case round =>
          clear HD1 HOB
          obtain ⟨i, A2, c2, hi1, hi2, rfl, HK2, HO2, HF2, HB2⟩ := hrel
          obtain ⟨wo, rfl⟩ : ∃ wo : World, wo = wr := ⟨_, rfl⟩
          have HVZ : Hid (∀ Z : World, Far wd [b10, bl] Z → Below V.heap.size V Z) := fun Z hZ => HVD.out.trans (hZ.below' (by omega) (by simp; omega))
          by_cases hil : i < n8
          · have jk : (i : Int) < (n8 : Int) := by omega
            obtain ⟨kj, hkj⟩ := get_of_lt (l := L) (k := i) (by omega)
            have hkl := hLlt.out kj (List.mem_of_getElem? hkj)
            obtain ⟨x, hx⟩ := get_of_lt (l := ws) (k := kj) hkl
            have hPR : (planR ⟨k, (b : Int), s⟩ ws L)[i]? = some x := by
              unfold planR
              obtain ⟨i', rfl⟩ : ∃ i', i = i' + 1 := ⟨i - 1, by omega⟩
              rw [List.getElem?_cons_succ, List.getElem?_map, List.getElem?_tail, hkj]
              show some (wkA ws kj) = _
              unfold wkA; rw [hx]
            have HT : Hid ((planR ⟨k, (b : Int), s⟩ ws L).take (i + 1) = (planR ⟨k, (b : Int), s⟩ ws L).take i ++ [x]) := by show _ = _; rw [List.take_add_one, hPR]; rfl
            obtain ⟨g1, g2, g3⟩ := HF.out wo (HVZ.out wo HF2.out)
            obtain ⟨ba, oa, hA8, _, c0⟩ := g2 i (kj : Int) (by rw [List.getElem?_map, hkj]; rfl)
            obtain ⟨bx, ox, hAx, _, d0, d1, d2⟩ := g3 kj x hx
            subst hA8 hAx
            have HX : Hid (∀ Z : World, Far wd [b10, bl] Z → Z.cell? ⟨w.heap.size, 1, none⟩ = some (.slice (some ⟨bx, ox, none⟩) n c) ∧ Z.cell? ⟨ba, oa + i, none⟩ = some (.int .i64 (kj : Int)) ∧ Z.cell? ⟨bx, ox + kj * 3, none⟩ = some (.int .i64 x.kind) ∧ Z.cell? ⟨bx, ox + kj * 3 + 1, none⟩ = some (.int .i64 x.at_) ∧ Z.cell? ⟨bx, ox + kj * 3 + 2, none⟩ = some (.string x.word)) := fun Z hZ => by
              obtain ⟨h1, h2, h3⟩ := HF.out Z (HVZ.out Z hZ)
              obtain ⟨ba', oa', e1, _, u0⟩ := h2 i (kj : Int) (by rw [List.getElem?_map, hkj]; rfl)
              obtain ⟨bx', ox', e2, _, v0, v1, v2⟩ := h3 kj x hx
              injection e1 with e1; injection e1 with e1 e3
              injection e2 with e2; injection e2 with e2 e4
              subst e1 e2 e3 e4
              exact ⟨h1, u0, v0, v1, v2⟩
            have b1 : wo.cell? ⟨b10, 1, none⟩ = some (.slice A2 i c2) := HK2.out.cell 1
            have kn : (kj : Int) < (n : Int) := by rw [← HL.out]; omega
            have hj1 : i + 1 ≤ 1000000000 := by omega
            have hzo2 : wd.heap.size ≤ wo.heap.size := HF2.out.size
            have hVd : V.heap.size ≤ wd.heap.size := by omega
            clear hkj hx hPR hkl
            go_wp2
            refine wp_region_noPanic ?_
            refine wp_region_B (fun b w' => w'.cell? ⟨w.heap.size, 1, none⟩ = some (.slice (some ⟨bx, ox, none⟩) n c) ∧ w'.cell? ⟨ba, oa + i, none⟩ = some (.int .i64 (kj : Int)) ∧ w'.cell? ⟨bx, ox + kj * 3, none⟩ = some (.int .i64 x.kind) ∧ w'.cell? ⟨bx, ox + kj * 3 + 1, none⟩ = some (.int .i64 x.at_) ∧ w'.cell? ⟨bx, ox + kj * 3 + 2, none⟩ = some (.string x.word) ∧ (b = false → w'.cell? ⟨b10, 1, none⟩ = some (.slice A2 i c2))) 13 (by kernel_rfl) ?_
            have hSSq : (fun b w' => w'.cell? ⟨w.heap.size, 1, none⟩ = some (.slice (some ⟨bx, ox, none⟩) n c) ∧ w'.cell? ⟨ba, oa + i, none⟩ = some (.int .i64 (kj : Int)) ∧ w'.cell? ⟨bx, ox + kj * 3, none⟩ = some (.int .i64 x.kind) ∧ w'.cell? ⟨bx, ox + kj * 3 + 1, none⟩ = some (.int .i64 x.at_) ∧ w'.cell? ⟨bx, ox + kj * 3 + 2, none⟩ = some (.string x.word) ∧ (b = false → w'.cell? ⟨b10, 1, none⟩ = some (.slice A2 i c2))) false (wo.drew) := ⟨g1, c0, d0, d1, d2, fun _ => b1⟩
            refine wpAnyB_take (i := 0) (oi := _) (v := ?vvq1) (fun w' => w'.cell? ⟨w.heap.size, 1, none⟩ = some (.slice (some ⟨bx, ox, none⟩) n c) ∧ w'.cell? ⟨ba, oa + i, none⟩ = some (.int .i64 (kj : Int)) ∧ w'.cell? ⟨bx, ox + kj * 3, none⟩ = some (.int .i64 x.kind) ∧ w'.cell? ⟨bx, ox + kj * 3 + 1, none⟩ = some (.int .i64 x.at_) ∧ w'.cell? ⟨bx, ox + kj * 3 + 2, none⟩ = some (.string x.word)) rfl (by kernel_rfl) (by kernel_rfl) (by kernel_rfl) (by kernel_rfl) (by rfl) (fun _ h => ⟨h.1, h.2.1, h.2.2.1, h.2.2.2.1, h.2.2.2.2.1⟩) (.inl fun _ h => ⟨h.1, h.2.1, h.2.2.1, h.2.2.2.1, h.2.2.2.2.1⟩) (fun _ _ _ h => h) (.inl ⟨by rfl, ?hyq1⟩) hSSq ?_
            case hyq1 =>
              intro w' hSw
              try dsimp only at hSw
              go_simp
              all_goals with_reducible rfl
            try simp only [Act.put, List.setIfInBounds_toArray]
            refine wpAnyB_take (i := 1) (oi := _) (v := ?vvq2) (fun w' => w'.cell? ⟨w.heap.size, 1, none⟩ = some (.slice (some ⟨bx, ox, none⟩) n c) ∧ w'.cell? ⟨ba, oa + i, none⟩ = some (.int .i64 (kj : Int)) ∧ w'.cell? ⟨bx, ox + kj * 3, none⟩ = some (.int .i64 x.kind) ∧ w'.cell? ⟨bx, ox + kj * 3 + 1, none⟩ = some (.int .i64 x.at_) ∧ w'.cell? ⟨bx, ox + kj * 3 + 2, none⟩ = some (.string x.word) ∧ w'.cell? ⟨b10, 1, none⟩ = some (.slice A2 i c2)) rfl (by kernel_rfl) (by kernel_rfl) (by kernel_rfl) (by kernel_rfl) (by rfl) (fun _ h => ⟨h.1, h.2.1, h.2.2.1, h.2.2.2.1, h.2.2.2.2.1, h.2.2.2.2.2 rfl⟩) (.inr (by kernel_rfl)) (fun _ _ _ h => h) (.inl ⟨by rfl, ?hyq2⟩) hSSq ?_
            case hyq2 =>
              intro w' hSw
              try dsimp only at hSw
              go_simp
              all_goals with_reducible rfl
            try simp only [Act.put]
            refine wpAnyB_take (i := 2) (oi := _) (v := ?vvq3) (fun w' => w'.cell? ⟨w.heap.size, 1, none⟩ = some (.slice (some ⟨bx, ox, none⟩) n c) ∧ w'.cell? ⟨ba, oa + i, none⟩ = some (.int .i64 (kj : Int)) ∧ w'.cell? ⟨bx, ox + kj * 3, none⟩ = some (.int .i64 x.kind) ∧ w'.cell? ⟨bx, ox + kj * 3 + 1, none⟩ = some (.int .i64 x.at_) ∧ w'.cell? ⟨bx, ox + kj * 3 + 2, none⟩ = some (.string x.word)) rfl (by kernel_rfl) (by kernel_rfl) (by kernel_rfl) (by kernel_rfl) (by rfl) (fun _ h => ⟨h.1, h.2.1, h.2.2.1, h.2.2.2.1, h.2.2.2.2.1⟩) (.inl fun _ h => ⟨h.1, h.2.1, h.2.2.1, h.2.2.2.1, h.2.2.2.2.1⟩) (fun _ _ _ h => h) (.inl ⟨by rfl, ?hyq3⟩) hSSq ?_
            case hyq3 =>
              intro w' hSw
              try dsimp only at hSw
              go_simp
              all_goals with_reducible rfl
            try simp only [Act.put]
            refine wpAnyB_take (i := 3) (oi := _) (v := ?vvq4) (fun w' => w'.cell? ⟨w.heap.size, 1, none⟩ = some (.slice (some ⟨bx, ox, none⟩) n c) ∧ w'.cell? ⟨ba, oa + i, none⟩ = some (.int .i64 (kj : Int)) ∧ w'.cell? ⟨bx, ox + kj * 3, none⟩ = some (.int .i64 x.kind) ∧ w'.cell? ⟨bx, ox + kj * 3 + 1, none⟩ = some (.int .i64 x.at_) ∧ w'.cell? ⟨bx, ox + kj * 3 + 2, none⟩ = some (.string x.word)) rfl (by kernel_rfl) (by kernel_rfl) (by kernel_rfl) (by kernel_rfl) (by rfl) (fun _ h => ⟨h.1, h.2.1, h.2.2.1, h.2.2.2.1, h.2.2.2.2.1⟩) (.inl fun _ h => ⟨h.1, h.2.1, h.2.2.1, h.2.2.2.1, h.2.2.2.2.1⟩) (fun _ _ _ h => h) (.inl ⟨by rfl, ?hyq4⟩) hSSq ?_
            case hyq4 =>
              intro w' hSw
              try dsimp only at hSw
              go_simp
              all_goals with_reducible rfl
            try simp only [Act.put]
            refine wpAnyB_take (i := 4) (oi := _) (v := ?vvq5) (fun w' => w'.cell? ⟨w.heap.size, 1, none⟩ = some (.slice (some ⟨bx, ox, none⟩) n c) ∧ w'.cell? ⟨ba, oa + i, none⟩ = some (.int .i64 (kj : Int)) ∧ w'.cell? ⟨bx, ox + kj * 3, none⟩ = some (.int .i64 x.kind) ∧ w'.cell? ⟨bx, ox + kj * 3 + 1, none⟩ = some (.int .i64 x.at_) ∧ w'.cell? ⟨bx, ox + kj * 3 + 2, none⟩ = some (.string x.word)) rfl (by kernel_rfl) (by kernel_rfl) (by kernel_rfl) (by kernel_rfl) (by rfl) (fun _ h => ⟨h.1, h.2.1, h.2.2.1, h.2.2.2.1, h.2.2.2.2.1⟩) (.inl fun _ h => ⟨h.1, h.2.1, h.2.2.1, h.2.2.2.1, h.2.2.2.2.1⟩) (fun _ _ _ h => h) (.inl ⟨by rfl, ?hyq5⟩) hSSq ?_
            case hyq5 =>
              intro w' hSw
              try dsimp only at hSw
              go_simp
              all_goals with_reducible rfl
            try simp only [Act.put]
            refine wpAnyB_take (i := 5) (oi := _) (v := ?vvq6) (fun w' => w'.cell? ⟨w.heap.size, 1, none⟩ = some (.slice (some ⟨bx, ox, none⟩) n c) ∧ w'.cell? ⟨ba, oa + i, none⟩ = some (.int .i64 (kj : Int)) ∧ w'.cell? ⟨bx, ox + kj * 3, none⟩ = some (.int .i64 x.kind) ∧ w'.cell? ⟨bx, ox + kj * 3 + 1, none⟩ = some (.int .i64 x.at_) ∧ w'.cell? ⟨bx, ox + kj * 3 + 2, none⟩ = some (.string x.word)) rfl (by kernel_rfl) (by kernel_rfl) (by kernel_rfl) (by kernel_rfl) (by rfl) (fun _ h => ⟨h.1, h.2.1, h.2.2.1, h.2.2.2.1, h.2.2.2.2.1⟩) (.inl fun _ h => ⟨h.1, h.2.1, h.2.2.1, h.2.2.2.1, h.2.2.2.2.1⟩) (fun _ _ _ h => h) (.inl ⟨by rfl, ?hyq6⟩) hSSq ?_
            case hyq6 =>
              intro w' hSw
              try dsimp only at hSw
              go_simp
              all_goals with_reducible rfl
            try simp only [Act.put]
            refine wpAnyB_take (i := 6) (oi := _) (v := ?vvq7) (fun w' => w'.cell? ⟨w.heap.size, 1, none⟩ = some (.slice (some ⟨bx, ox, none⟩) n c) ∧ w'.cell? ⟨ba, oa + i, none⟩ = some (.int .i64 (kj : Int)) ∧ w'.cell? ⟨bx, ox + kj * 3, none⟩ = some (.int .i64 x.kind) ∧ w'.cell? ⟨bx, ox + kj * 3 + 1, none⟩ = some (.int .i64 x.at_) ∧ w'.cell? ⟨bx, ox + kj * 3 + 2, none⟩ = some (.string x.word)) rfl (by kernel_rfl) (by kernel_rfl) (by kernel_rfl) (by kernel_rfl) (by rfl) (fun _ h => ⟨h.1, h.2.1, h.2.2.1, h.2.2.2.1, h.2.2.2.2.1⟩) (.inl fun _ h => ⟨h.1, h.2.1, h.2.2.1, h.2.2.2.1, h.2.2.2.2.1⟩) (fun _ _ _ h => h) (.inl ⟨by rfl, ?hyq7⟩) hSSq ?_
            case hyq7 =>
              intro w' hSw
              try dsimp only at hSw
              go_simp
              all_goals with_reducible rfl
            try simp only [Act.put]
            refine wpAnyB_take (i := 7) (oi := _) (v := ?vvq8) (fun w' => w'.cell? ⟨w.heap.size, 1, none⟩ = some (.slice (some ⟨bx, ox, none⟩) n c) ∧ w'.cell? ⟨ba, oa + i, none⟩ = some (.int .i64 (kj : Int)) ∧ w'.cell? ⟨bx, ox + kj * 3, none⟩ = some (.int .i64 x.kind) ∧ w'.cell? ⟨bx, ox + kj * 3 + 1, none⟩ = some (.int .i64 x.at_) ∧ w'.cell? ⟨bx, ox + kj * 3 + 2, none⟩ = some (.string x.word)) rfl (by kernel_rfl) (by kernel_rfl) (by kernel_rfl) (by kernel_rfl) (by rfl) (fun _ h => ⟨h.1, h.2.1, h.2.2.1, h.2.2.2.1, h.2.2.2.2.1⟩) (.inl fun _ h => ⟨h.1, h.2.1, h.2.2.1, h.2.2.2.1, h.2.2.2.2.1⟩) (fun _ _ _ h => h) (.inl ⟨by rfl, ?hyq8⟩) hSSq ?_
            case hyq8 =>
              intro w' hSw
              try dsimp only at hSw
              go_simp
              all_goals with_reducible rfl
            try simp only [Act.put]
            refine wpAnyB_take (i := 8) (oi := _) (v := ?vvq9) (fun w' => w'.cell? ⟨w.heap.size, 1, none⟩ = some (.slice (some ⟨bx, ox, none⟩) n c) ∧ w'.cell? ⟨ba, oa + i, none⟩ = some (.int .i64 (kj : Int)) ∧ w'.cell? ⟨bx, ox + kj * 3, none⟩ = some (.int .i64 x.kind) ∧ w'.cell? ⟨bx, ox + kj * 3 + 1, none⟩ = some (.int .i64 x.at_) ∧ w'.cell? ⟨bx, ox + kj * 3 + 2, none⟩ = some (.string x.word)) rfl (by kernel_rfl) (by kernel_rfl) (by kernel_rfl) (by kernel_rfl) (by rfl) (fun _ h => ⟨h.1, h.2.1, h.2.2.1, h.2.2.2.1, h.2.2.2.2.1⟩) (.inl fun _ h => ⟨h.1, h.2.1, h.2.2.1, h.2.2.2.1, h.2.2.2.2.1⟩) (fun _ _ _ h => h) (.inl ⟨by rfl, ?hyq9⟩) hSSq ?_
            case hyq9 =>
              intro w' hSw
              try dsimp only at hSw
              go_simp
              all_goals with_reducible rfl
            try simp only [Act.put]
            refine wpAnyB_take (i := 9) (oi := _) (v := ?vvq10) (fun w' => w'.cell? ⟨w.heap.size, 1, none⟩ = some (.slice (some ⟨bx, ox, none⟩) n c) ∧ w'.cell? ⟨ba, oa + i, none⟩ = some (.int .i64 (kj : Int)) ∧ w'.cell? ⟨bx, ox + kj * 3, none⟩ = some (.int .i64 x.kind) ∧ w'.cell? ⟨bx, ox + kj * 3 + 1, none⟩ = some (.int .i64 x.at_) ∧ w'.cell? ⟨bx, ox + kj * 3 + 2, none⟩ = some (.string x.word)) rfl (by kernel_rfl) (by kernel_rfl) (by kernel_rfl) (by kernel_rfl) (by rfl) (fun _ h => ⟨h.1, h.2.1, h.2.2.1, h.2.2.2.1, h.2.2.2.2.1⟩) (.inl fun _ h => ⟨h.1, h.2.1, h.2.2.1, h.2.2.2.1, h.2.2.2.2.1⟩) (fun _ _ _ h => h) (.inl ⟨by rfl, ?hyq10⟩) hSSq ?_
            case hyq10 =>
              intro w' hSw
              try dsimp only at hSw
              go_simp
              all_goals with_reducible rfl
            try simp only [Act.put]
            refine wpAnyB_one (i := 10) false rfl (by kernel_rfl) (by kernel_rfl) ?_
            intro KK hKK
            go_simp
            have D8 : Far wd [b10, bl] (wo.drew.alloc (.cells #[.int .i64 x.kind, .int .i64 x.at_, .string x.word] 26)) := HF2.out.drew.next ((Below.refl _ _).alloc (Nat.le_refl _) _)
            have K8 := HK2.out.drew.alloc (.cells #[.int .i64 x.kind, .int .i64 x.at_, .string x.word] 26)
            have O8 : (wo.drew.alloc (.cells #[.int .i64 x.kind, .int .i64 x.at_, .string x.word] 26)).ownsRow V.heap.size 26 3 (.slice A2 i c2) i (wksCells ((planR ⟨k, (b : Int), s⟩ ws L).take i)) := HO2.out.drew.alloc (.cells #[.int .i64 x.kind, .int .i64 x.at_, .string x.word] 26)
            have f8 := HX.out _ D8
            have news8 := news_wk wo.drew x 26
            have n8' : V.heap.size ≤ (wo.drew.alloc (.cells #[.int .i64 x.kind, .int .i64 x.at_, .string x.word] 26)).heap.size := by have := D8.size; omega
            refine hKK.out _ _ ⟨f8.1, f8.2.1, f8.2.2.1, f8.2.2.2.1, f8.2.2.2.2, fun _ => K8.cell 1⟩ ?_
            clear hKK KK
            try simp only [Act.put, List.setIfInBounds_toArray, List.set_cons_zero, List.set_cons_succ]
            refine wpAnyB_one (i := 11) false rfl (by kernel_rfl) (by kernel_rfl) ?_
            intro KK hKK
            refine step_appN rfl (.tmp 53) (.tmp 62) _ rfl V.heap.size 26 (.agg #[.int .i64 0, .int .i64 0, .string ⟨#[]⟩]) 3 32 Try.underlying22 infoWk28 rfl (by omega) (by omega) (.slice A2 i c2) i (wksCells ((planR ⟨k, (b : Int), s⟩ ws L).take i)) rfl O8 ⟨wo.heap.size, 0, none⟩ 1 1 (wkCells x) rfl rfl (fun j u hu => by rw [Addr.add_lit, Nat.zero_add]; exact news8 j u hu) (one_wk _) hj1 n8' ?_
            intro v9 w9 ho9 hg9 _ hor9
            obtain ⟨A9', c9', hv9⟩ := own_form ho9
            subst hv9
            have K9 := K8.same (hg9.block b10 K8.lt (fun e => (K8.ne_own O8 (by decide)) e.symm))
            have D9 : Far wd [b10, bl] w9 := farGrow D8 hg9 (fun r hr => (HB2.out r hr).elim (fun e => .inr (by rw [e]; simp)) .inl)
            have HOB9 : Hid (∀ r, (Value.slice A9' (i + 1) c9').ownBlock = some r → r = bl ∨ wd.heap.size ≤ r) := fun r hr => hor9.elim (fun e => HB2.out r (e ▸ hr)) (fun e => .inr (Nat.le_trans D8.size (Nat.le_of_eq (Option.some.inj (e.symm.trans hr)))))
            have f9 := HX.out w9 D9
            refine hKK.out _ _ ⟨f9.1, f9.2.1, f9.2.2.1, f9.2.2.2.1, f9.2.2.2.2, fun _ => K9.cell 1⟩ ?_
            clear hKK KK
            try simp only [Act.put, List.setIfInBounds_toArray]
            refine wpAnyB_one (i := 12) false rfl (by kernel_rfl) (by kernel_rfl) ?_
            intro KK hKK
            have g9' := K9.lt
            go_simp
            refine hKK.out _ _ ⟨f9.1, f9.2.1, f9.2.2.1, f9.2.2.2.1, f9.2.2.2.2, fun _ => K9.cell 1⟩ ?_
            clear hKK KK
            try simp only [Act.put, List.setIfInBounds_toArray, List.set_cons_zero, List.set_cons_succ]
            refine wpAnyB_one (i := 13) true rfl (by kernel_rfl) (by kernel_rfl) ?_
            intro KK hKK
            have y0 := K9.cell 1
            have y1 := K9.free 1
            have y2 := K9.lt
            go_simp
            have f10 := HX.out _ (D9.but (But.set b10 w9 1 (.slice A9' (i + 1) c9')) (.inr (by simp)))
            refine hKK.out _ _ ⟨f10.1, f10.2.1, f10.2.2.1, f10.2.2.2.1, f10.2.2.2.2, fun hh => by cases hh⟩ ?_
            clear hKK KK
            try simp only [Act.put, List.setIfInBounds_toArray, List.set_cons_zero, List.set_cons_succ]
            refine wpAnyB_done (by kernel_rfl) (NoPanic.normal ?_) _
            go_wp2
            go_roundw
            case rel =>
              refine ⟨i + 1, A9', c9', by omega, by omega, by go_num, K9.set 1 _, ?_, ?_, HOB9⟩
              · show World.ownsRow _ _ _ _ _ _ _
                rw [HT.out, wksCells_app]
                exact (But.set b10 w9 1 (.slice A9' (i + 1) c9')).own ho9 (K9.ne_own ho9 (by decide))
              · exact D9.but (But.set b10 w9 1 (.slice A9' (i + 1) c9')) (.inr (by simp))
            case measure => first | (simp [intOf]; done) | (simp [intOf]; omega)
          · obtain rfl : i = n8 := by omega
            have jk : ¬ (i : Int) < (i : Int) := by omega
            have HVE := HVZ.out wo HF2.out
            have HR6e := Lib.hid (HR6.out.below HVE HR6.out.lt)
            have HR7e := Lib.hid (HR7.out.below HVE HR7.out.lt)
            have HBe := Lib.hid (bvia BV.out HVE)
            have HK9 := Lib.hid (HF2.out.has HK.out (by simp; omega))
            have OU : Hid (wo.ownsRow wc.heap.size 26 3 (.slice A1 i c1) i (wksCells (planU ws L))) := by
              have h := HO1.out
              rw [HE1.out] at h
              exact own_same h (fun g hg => HF2.out.block g (h.lt g hg).2 (by have := (h.lt g hg).1; simp; omega))
            have OR : Hid (wo.ownsRow V.heap.size 26 3 (.slice A2 i c2) i (wksCells (planR ⟨k, (b : Int), s⟩ ws L))) := by
              have h := HO2.out
              rwa [List.take_of_length_le (by rw [planR_len _ _ hLp, hL8]; exact Nat.le_refl _)] at h
            have hu6 := HR6e.out.ne_own OU.out (by decide)
            have hu7 := HR7e.out.ne_own OU.out (by decide)
            have hr6 := HR6e.out.ne_own OR.out (by decide)
            have hr7 := HR7e.out.ne_own OR.out (by decide)
            have HNE := Lib.hid (And.intro (And.intro hu6 hu7) (And.intro hr6 hr7))
            have p0 : wo.cell? ⟨b9, 0, none⟩ = some (.int .i64 p) := HK9.out.cell 0
            have p1 : wo.cell? ⟨b9, 1, none⟩ = some (.slice A1 i c1) := HK9.out.cell 1
            have p2 := HK9.out.lt
            have q0 : wo.cell? ⟨b10, 0, none⟩ = some (.int .i64 p) := HK2.out.cell 0
            have q1 : wo.cell? ⟨b10, 1, none⟩ = some (.slice A2 i c2) := HK2.out.cell 1
            have q2 := HK2.out.lt
            have u0 : wo.cell? ⟨w.heap.size + 1 + 1, 0, none⟩ = some (.int .i64 0) := HR6e.out.cell 0
            have u1 : wo.cell? ⟨w.heap.size + 1 + 1, 1, none⟩ = some (.slice none 0 0) := HR6e.out.cell 1
            have u2 := HR6e.out.lt
            have u3 := HR6e.out.free 0
            have u4 := HR6e.out.free 1
            have v0 : wo.cell? ⟨w.heap.size + 1 + 1 + 1, 0, none⟩ = some (.int .i64 0) := HR7e.out.cell 0
            have v1 : wo.cell? ⟨w.heap.size + 1 + 1 + 1, 1, none⟩ = some (.slice none 0 0) := HR7e.out.cell 1
            have v2 := HR7e.out.lt
            have v3 := HR7e.out.free 0
            have v4 := HR7e.out.free 1
            have x1 : b9 ≠ w.heap.size + 1 + 1 := by have := HR6.out.lt; omega
            have x2 : b9 ≠ w.heap.size + 1 + 1 + 1 := by have := HR7.out.lt; omega
            have x3 : b10 ≠ w.heap.size + 1 + 1 := by have := HR6.out.lt; omega
            have x4 : b10 ≠ w.heap.size + 1 + 1 + 1 := by have := HR7.out.lt; omega
            clear hu6 hu7 hr6 hr7
            go_wp2
            go_region
            all_goals go_wp2
            all_goals obtain ⟨⟨hu6, hu7⟩, hr6, hr7⟩ := HNE.out
            all_goals (first
              | (have FF := fin28 w wo (w.heap.size + 1 + 1) (w.heap.size + 1 + 1 + 1) p A1 i c1 A2 i c2 (planU ws L) (planR ⟨k, (b : Int), s⟩ ws L) wc.heap.size V.heap.size HR6e.out HR7e.out (by omega) OU.out OR.out HBe.out (by omega) (by omega); exact post_cell2 FF.1 FF.2.1 rfl rfl rfl rfl Try.underlying24 (by kernel_rfl) Try.underlying24 (by kernel_rfl) ⟨A1, i, c1, A2, i, c2, rfl, FF.2.2.1, by rw [planU_len]; exact hL8, (own_caps OU.out).1, (own_caps OU.out).2, FF.2.2.2.1, by rw [planR_len _ _ hLp]; exact hL8, (own_caps OR.out).1, (own_caps OR.out).2, FF.2.2.2.2⟩)
              | (have FF := fin28 w wo (w.heap.size + 1 + 1 + 1) (w.heap.size + 1 + 1) p A2 i c2 A1 i c1 (planR ⟨k, (b : Int), s⟩ ws L) (planU ws L) V.heap.size wc.heap.size HR7e.out HR6e.out (by omega) OR.out OU.out HBe.out (by omega) (by omega); exact post_cell2 FF.2.1 FF.1 rfl rfl rfl rfl Try.underlying24 (by kernel_rfl) Try.underlying24 (by kernel_rfl) ⟨A1, i, c1, A2, i, c2, rfl, FF.2.2.2.1, by rw [planU_len]; exact hL8, (own_caps OU.out).1, (own_caps OU.out).2, FF.2.2.1, by rw [planR_len _ _ hLp]; exact hL8, (own_caps OR.out).1, (own_caps OR.out).2, FF.2.2.2.2⟩))
end Go.Proofs.Ytnjenggijmbhcaa
