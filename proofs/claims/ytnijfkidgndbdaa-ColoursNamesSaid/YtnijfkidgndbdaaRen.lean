/-
  Contract of the law of chapter 21: renamed: every colour by the names given.
-/
import Derived.Test.YtnijfkidgndbdaaSha
namespace Go.Proofs.Ytnijfkidgndbdaa
open Go.RowKit
abbrev vByte (x : Int) : Value := .int .u8 x
abbrev RdY (w : World) (B : Nat) (A : Option Addr) (xs : List Int) : Prop := Rd1 vByte w B A xs
/-- a colour's new name -/
def renC (ns : List Int) (v : Int) : Int := (ns.getD v.toNat 0).tmod 16
def renL (ns xs : List Int) : List Int := xs.map (renC ns)
theorem renC_get {ns : List Int} {i b : Nat} (h : ns[i]? = some (b : Int)) : renC ns (i : Int) = ((b % 16 : Nat) : Int) := by
  unfold renC
  rw [show ((i : Nat) : Int).toNat = i by simp, List.getD_eq_getElem?_getD, h]; rfl
theorem renTo_succ {ns xs : List Int} {j : Nat} {x : Int} (h : xs[j]? = some x) : renL ns (xs.take (j + 1)) = renL ns (xs.take j) ++ [renC ns x] := by
  unfold renL
  rw [List.take_add_one, h]; simp
theorem renTo_len {ns xs : List Int} {j : Nat} (h : j ≤ xs.length) : (renL ns (xs.take j)).length = j := by
  unfold renL; simp; omega
set_option maxRecDepth 100000 in
set_option maxHeartbeats 2000000 in
theorem ren37 (D N : Option Addr) (k e e2 : Nat) (ds ns : List Int) (w : World) (hk : k ≤ 20000) (hd : RdI w w.heap.size D ds) (hn : RdY w w.heap.size N ns) (hl : ds.length = k) (hln : ns.length = 16)
    (hv : ∀ y ∈ ds, 0 ≤ y ∧ y < 16) (hb : ∀ y ∈ ns, 0 ≤ y ∧ y ≤ 255) :
    Calls Try.prog 37 #[.slice D k e, .slice N 16 e2] w (RetO (renL ns ds) w) := by
  have HD := Lib.hid hd; have HN := Lib.hid hn; have HL := Lib.hid hl; have HLN := Lib.hid hln; have HV := Lib.hid hv; have HY := Lib.hid hb
  clear hd hn hl hln hv hb
  go_enter Try.func37, Try.ntmps37
  go_wp2
  go_loopw [5, 6] (fun v i wr => ∃ (j : Nat) (A' : Option Addr) (c' : Nat), j ≤ k ∧ i = .int .i64 (j : Int) ∧ v = .slice A' j c' ∧ wr.ownsRow w.heap.size 3 1 v j ((renL ns (ds.take j)).map vInt) ∧ Below w.heap.size w wr) (fun _ i _ => k - (intOf i).toNat)
  case atStart => exact ⟨0, none, 0, Nat.zero_le _, rfl, rfl, World.ownsRow_nil _ _ _ _, Below.refl _ _⟩
  case round =>
    obtain ⟨j, A', c', hj, rfl, rfl, hown, hb⟩ := hrel
    obtain ⟨wo, rfl⟩ : ∃ wo : World, wo = wr := ⟨_, rfl⟩
    have HO' := Lib.hid hown; clear hown
    have hz := hb.size
    by_cases hlt : j < k
    · obtain ⟨x, hx⟩ := get_of_lt (l := ds) (k := j) (by rw [HL.out]; exact hlt)
      obtain ⟨h0, h1⟩ := HV.out x (mem_of_get hx)
      obtain ⟨i, rfl⟩ := Int.eq_ofNat_of_zero_le h0
      have hi : i < 16 := by omega
      obtain ⟨y, hy⟩ := get_of_lt (l := ns) (k := i) (by rw [HLN.out]; exact hi)
      obtain ⟨g0, g1⟩ := HY.out y (mem_of_get hy)
      obtain ⟨b, rfl⟩ := Int.eq_ofNat_of_zero_le g0
      obtain ⟨ba, oa, rfl, hba, c0⟩ := HD.out _ _ hx
      obtain ⟨bn, on, rfl, hbn, c1⟩ := HN.out _ _ hy
      have e0 := (hb.cell (p := ⟨ba, oa + j, none⟩) hba).trans c0
      have e1 := (hb.cell (p := ⟨bn, on + i, none⟩) hbn).trans c1
      have HS : Hid (renL ns (ds.take (j + 1)) = renL ns (ds.take j) ++ [((b % 16 : Nat) : Int)]) := by
        show renL ns (ds.take (j + 1)) = _
        rw [renTo_succ hx, renC_get hy]
      have r1 : (b : Int).tmod 16 = ((b % 16 : Nat) : Int) := rfl
      have hvv : b % 16 < 16 := Nat.mod_lt _ (by omega)
      have cw1 : IntKind.i64.wrap (b : Int) = (b : Int) := IntWalk.i64_in _ (by omega)
      generalize b % 16 = vv at *
      have cw3 : IntKind.i64.wrap (vv : Int) = (vv : Int) := IntWalk.i64_in _ (by omega)
      have jn : (j : Int) < (k : Int) := by omega
      have d1 : decide ((0 : Int) ≤ (i : Int)) = true := decide_eq_true (by omega)
      have d2 : decide ((i : Int) < 16) = true := decide_eq_true (by omega)
      have d3 : (i : Int) < 16 := by omega
      clear hx hy c0 c1 h0 h1 g0 g1
      go_wp2_with (at_builtin; refine wpList_app rfl (.tmp 32) (.tmp 34) _ rfl w.heap.size 3 (.int .i64 0) 1 8 Try.underlying26 infoInt rfl (by omega) (by omega) _ _ _ rfl (HO'.out.alloc _) wo.heap.size [vInt (vv : Int)] rfl rfl (news_new _ _ _) (one_int _ _) (by omega) (by simp; omega) ?_; intro ga cap1 w7 hg1 hown1 hgrow1 hor1)
      go_roundw
      case rel => exact ⟨j + 1, some ⟨ga, 0, none⟩, cap1, by omega, by go_num, rfl, by rw [HS.out]; simpa using hown1, (hb.alloc hz _).grown hgrow1 (by simp; omega) (fun kk hk => (HO'.out.lt kk hk).1)⟩
      case measure => first | (simp [intOf]; done) | (simp [intOf]; omega)
    · obtain rfl : k = j := by omega
      have HT : Hid (ds.take k = ds) := List.take_of_length_le (by rw [HL.out]; exact Nat.le_refl _)
      go_wp2
      go_ret
      rw [HT.out] at HO'
      exact ⟨A', k, c', rfl, HO'.out, by unfold renL; rw [List.length_map, HL.out], hb⟩
end Go.Proofs.Ytnijfkidgndbdaa
