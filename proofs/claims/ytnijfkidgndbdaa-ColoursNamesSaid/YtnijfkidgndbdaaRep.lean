/-
  Contract of slices.Repeat for one number and a small count.
-/
import Derived.Test.YtnijfkidgndbdaaMul
import Derived.Test.YtnijfkidgndbdaaLin
import Derived.Laws.MakeOwn
import Derived.Laws.CopyOwn
import Derived.Deep.RegionHeld3
namespace Go.Proofs.Ytnijfkidgndbdaa
open Go.RowKit
theorem mkI (n : Nat) (hn : n ≤ 1000) (W : World) : (Instr.makeSlice 26 (.int .i64 (n : Int)) (.int .i64 (n : Int))).run Try.prog W = .ok (.slice (some ⟨W.heap.size, 0, none⟩) n n) (W.alloc (.cells (madeCells #[.int .i64 0] n) 3)) := by
  obtain ⟨i, hi, hz, hs, hb⟩ := info_parts infoInt
  have h := run_make (P := Try.prog) W 26 3 i (.int .i64 0) Try.underlying26 hi hz .i64 .i64 (n : Int) (n : Int) (by omega) (Int.le_refl _) (by rw [hb]; omega) (by omega)
  rw [hs] at h
  simpa [Value.cells] using h
theorem splice_rep (a z : Value) (q m T : Nat) (h : q + m ≤ T) : splice (List.replicate q a ++ List.replicate (T - q) z) q (List.replicate m a) = List.replicate (q + m) a ++ List.replicate (T - (q + m)) z := by
  unfold splice
  rw [List.take_append_of_le_length (by simp), List.take_of_length_le (by simp), List.drop_append]
  simp
  rw [← List.append_assoc, List.replicate_append_replicate]
  congr 2
  omega
theorem made_rep (z : Value) (n : Nat) : madeCells #[z] n = (List.replicate n z).toArray := by
  apply Array.ext'
  rw [toList_madeCells_one]
set_option maxRecDepth 100000 in
set_option maxHeartbeats 1000000 in
theorem repeat49 (b c T : Nat) (x : Int) (w : World) (hc : w.cell? ⟨b, 0, none⟩ = some (.int .i64 x)) (h0 : 1 ≤ T) (hT : T ≤ 48) :
    Calls Try.prog 49 #[.slice (some ⟨b, 0, none⟩) 1 c, .int .i64 (T : Int)] w fun e w' => e = .returned (.slice (some ⟨w.heap.size, 0, none⟩) T T) ∧ Has w' w.heap.size 3 (List.replicate T (vInt x)) ∧ Below w.heap.size w w' := by
  have hmk := mkI T (by omega)
  have d0 : decide ((T : Int) < 0) = false := decide_eq_false (by omega)
  have i1 : IntKind.u64.wrap (T : Int) = (T : Int) := IntWalk.u64_in _ (by omega)
  have i2 : IntKind.i64.wrap (T : Int) = (T : Int) := IntWalk.i64_in _ (by omega)
  have d1 : decide ((9223372036854775807 : Int) < T) = false := decide_eq_false (by omega)
  have hb : b < w.heap.size := block_lt_of_cell hc
  have hsz : (Try.prog.info? 3).map (·.size) = some 1 := by kernel_rfl
  have hsrc : ∀ (j : Nat) v, (List.replicate 1 (vInt x))[j]? = some v → (w.alloc (.cells (madeCells #[.int .i64 0] T) 3)).cell? ((⟨b, 0, none⟩ : Addr).add j) = some v := fun j v hv => by
    match j, hv with
    | 0, hv => simp at hv; subst hv; rw [Addr.add_lit]; exact (World.cell?_of_block (Below.heap_alloc w _ b hb)).trans hc
    | j + 1, hv => simp at hv
  have hnew : Has (w.alloc (.cells (madeCells #[.int .i64 0] T) 3)) w.heap.size 3 (List.replicate 0 (vInt x) ++ List.replicate (T - 0) (vInt 0)) := Has.new (by rw [made_rep]; simp)
  have hlen : (List.replicate 1 (vInt x)).length = Nat.min 1 T := by show 1 = min 1 T; omega
  have hfit : 0 + (List.replicate 1 (vInt x)).length ≤ (List.replicate 0 (vInt x) ++ List.replicate (T - 0) (vInt 0)).length := by simp; omega
  have hgr : Below w.heap.size w (w.alloc (.cells (madeCells #[.int .i64 0] T) 3)) := by go_grown
  go_enter Try.func49, Try.ntmps49
  go_wp2_with (first
    | (go_at_call 63; refine (mul63 T _ hT).mono ?_; rintro e w' ⟨rfl, hw'⟩; have hw' := hw'.symm; subst hw')
    | (refine wpList_copy_splice rfl (.tmp 31) (.tmp 32) 26 26 rfl 3 Try.underlying26 hsz _ _ _ _ _ _ rfl rfl w.heap.size 0 (List.replicate 0 (vInt x) ++ List.replicate (T - 0) (vInt 0)) 3 hnew (List.replicate 1 (vInt x)) hlen (fun _ => ⟨rfl, _, rfl, hsrc⟩) hfit (one_ints [x]) w.heap.size w hgr (Nat.le_refl _) ?_))
  intro w2 HG2 hb2
  have e : splice (List.replicate T (vInt 0)) 0 [vInt x] = List.replicate 1 (vInt x) ++ List.replicate (T - 1) (vInt 0) := by simpa using splice_rep (vInt x) (vInt 0) 0 1 T (by omega)
  rw [e] at HG2
  have HG3 : Hid (Has w2 w.heap.size 3 (List.replicate 1 (vInt x) ++ List.replicate (T - 1) (vInt 0))) := HG2
  clear hsrc hgr hnew hlen hfit e HG2
  go_wp2
  go_loopw [8] (fun i wr => ∃ q : Nat, 1 ≤ q ∧ q ≤ T ∧ i = .int .i64 (q : Int) ∧ Hid (Has wr w.heap.size 3 (List.replicate q (vInt x) ++ List.replicate (T - q) (vInt 0))) ∧ Below w.heap.size w wr) (fun i _ => T - (intOf i).toNat)
  case atStart => exact ⟨1, Nat.le_refl _, h0, by simp, HG3, hb2⟩
  case round =>
    clear HG3 hb2
    obtain ⟨q, hq1, hq, rfl, HG, hbw⟩ := hrel
    obtain ⟨wo, rfl⟩ : ∃ wo : World, wo = wr := ⟨_, rfl⟩
    by_cases hlt : q < T
    · have n1 : (0 : Int) ≤ (q : Int) := by omega
      have n2 : (q : Int) ≤ (T : Int) := by omega
      obtain ⟨mm, hmm⟩ : ∃ mm, mm = min q (T - q) := ⟨_, rfl⟩
      have hm0 : 0 < mm := by omega
      have hTq : ¬ T = q := by omega
      have hm1 : q + mm ≤ T := by omega
      have hm2 : mm ≤ q := by omega
      obtain ⟨cs, hcs⟩ : ∃ cs, cs = List.replicate mm (vInt x) := ⟨_, rfl⟩
      have hlen : cs.length = Nat.min q (T - q) := by rw [hcs, List.length_replicate, hmm]
      have hfit : q + cs.length ≤ (List.replicate q (vInt x) ++ List.replicate (T - q) (vInt 0)).length := by rw [hcs]; simp only [List.length_append, List.length_replicate]; omega
      have hone : ∀ v ∈ cs, v.oneCell' = true := fun v hv => by rw [hcs] at hv; rw [List.eq_of_mem_replicate hv]; rfl
      have hsrc : ∀ (j : Nat) v, cs[j]? = some v → wo.drew.cell? ((⟨w.heap.size, 0, none⟩ : Addr).add j) = some v := fun j v hv => by
        have hj := lt_of_get hv
        rw [hcs] at hv hj
        rw [List.length_replicate] at hj
        rw [List.getElem?_replicate, if_pos hj] at hv
        rw [Addr.add_lit, Nat.zero_add, HG.out.drew.cell, List.getElem?_append_left (by simp; omega), List.getElem?_replicate, if_pos (by omega)]
        exact hv
      have hnew := HG.out.drew
      have hgd : Below w.heap.size w wo.drew := below_drewN hbw 1
      have i3 : IntKind.i64.wrap ((q : Int) + (cs.length : Int)) = (q : Int) + (cs.length : Int) := IntWalk.i64_in _ (by rw [hcs, List.length_replicate]; omega)
      obtain ⟨cur, hcur⟩ : ∃ cur, cur = List.replicate q (vInt x) ++ List.replicate (T - q) (vInt 0) := ⟨_, rfl⟩
      rw [← hcur] at hnew hfit
      have HCS := Lib.hid hcs; have HCUR := Lib.hid hcur; have HMM := Lib.hid hmm
      clear hcs hcur hmm HG
      go_wp2
      go_region_held3 (fun _ => True) (trivial) (first | (refine step_copy_splice rfl (.tmp 41) (.tmp 44) 26 26 rfl 3 Try.underlying26 hsz _ _ _ _ _ _ rfl rfl w.heap.size q cur 3 hnew cs hlen (fun _ => ⟨rfl, _, rfl, hsrc⟩) hfit hone w.heap.size w hgd (Nat.le_refl _) ?_; intro w4 HG4 hb4) | fail)
      go_wp2
      go_roundw
      case rel =>
        refine ⟨q + mm, by omega, hm1, ?_, ?_, hb4⟩
        · have e : Nat.min q (T - q) = mm := HMM.out.symm
          have e2 : IntKind.i64.wrap ((q : Int) + (mm : Int)) = (q : Int) + (mm : Int) := IntWalk.i64_in _ (by omega)
          rw [e, e2]; simp
        · have h := HG4.out
          rw [HCS.out, HCUR.out, splice_rep _ _ q mm T hm1] at h
          exact Lib.hid h
      case measure =>
        have e : Nat.min q (T - q) = mm := HMM.out.symm
        have e2 : IntKind.i64.wrap ((q : Int) + (mm : Int)) = (q : Int) + (mm : Int) := IntWalk.i64_in _ (by omega)
        simp only [intOf]
        rw [e, e2]
        omega
    · obtain rfl : q = T := by omega
      go_wp2
      go_ret
      exact ⟨rfl, by simpa using HG.out, hbw⟩
end Go.Proofs.Ytnijfkidgndbdaa
