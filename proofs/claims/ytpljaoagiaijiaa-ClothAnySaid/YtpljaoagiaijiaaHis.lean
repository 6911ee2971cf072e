/-
  Contract of the law of chapter 17: history.
-/
import Derived.Test.YtpljaoagiaijiaaReo
import Derived.Test.YtpljaoagiaijiaaMki
import Derived.Deep.CutRange
namespace Go.Proofs.Ytpljaoagiaijiaa
open Go.RowKit
def mtC (y : Int × Int × Bool) : List Value := [.int .i64 y.1, .int .i64 y.2.1, .bool y.2.2]
def mtsC (ys : List (Int × Int × Bool)) : List Value := ys.flatMap mtC
theorem mtsC_app (ys zs : List (Int × Int × Bool)) : mtsC (ys ++ zs) = mtsC ys ++ mtsC zs := by unfold mtsC; rw [List.flatMap_append]
theorem mtsC_get {y : Int × Int × Bool} : ∀ {ys : List (Int × Int × Bool)} {k : Nat}, ys[k]? = some y → (mtsC ys)[k * 3]? = some (.int .i64 y.1) ∧ (mtsC ys)[k * 3 + 1]? = some (.int .i64 y.2.1) ∧ (mtsC ys)[k * 3 + 2]? = some (.bool y.2.2)
  | [], k, h => by simp at h
  | z :: ys, 0, h => by simp at h; subst h; simp [mtsC, mtC]
  | z :: ys, k + 1, h => by
    have := mtsC_get (ys := ys) (k := k) (by simpa using h)
    simp only [mtsC, List.flatMap_cons, Nat.succ_mul] at *
    simp only [mtC, List.cons_append, List.nil_append] at *
    exact this
theorem infoMt : (Try.prog.info? 43).map (fun i => (i.zero, i.size, i.bytes)) = some (some (.agg #[.int .i64 0, .int .i64 0, .bool false]), 3, 24) := by kernel_rfl
theorem news3 (w : World) (a b c : Value) (t : TypeId) : ∀ j u, ([a, b, c] : List Value)[j]? = some u → (w.alloc (.cells #[a, b, c] t)).cell? ⟨w.heap.size, j, none⟩ = some u := fun j _ hu => ((Has.new (w := w) (t := t) (cs := [a, b, c]) rfl).cell j).trans hu
theorem one_mt (a b : Int) (c : Bool) : ∀ u ∈ [vInt a, vInt b, .bool c], u.oneCell' = true := fun u hu => by
  simp only [List.mem_cons, List.not_mem_nil, or_false] at hu
  rcases hu with rfl | rfl | rfl <;> rfl
/-- what a thread does at the first k crossings -/
def hisTo (th : Int) (ids : List Int) (xs : List Q4) (k : Nat) : List (Int × Int × Bool) := hist th ((xs.take k).map (relab (labW ids)))
theorem hisTo_succ {th : Int} {ids : List Int} {xs : List Q4} {k : Nat} {x : Q4} (h : xs[k]? = some x) : hisTo th ids xs (k + 1) = hisTo th ids xs k ++ ((if x.c = th then [(labW ids x.a, x.d, true)] else []) ++ (if x.d = th then [(labW ids x.a, x.c, false)] else [])) := by
  unfold hisTo
  rw [List.take_add_one, h, List.map_append, hist_app]
  congr 1
  simp [hist, relab]
theorem hisTo_len (th : Int) (ids : List Int) (xs : List Q4) : ∀ k, (hisTo th ids xs k).length ≤ 2 * k
  | 0 => by simp [hisTo, hist]
  | k + 1 => by
    have ih := hisTo_len th ids xs k
    cases h : xs[k]? with
    | none =>
      have e : hisTo th ids xs (k + 1) = hisTo th ids xs k := by unfold hisTo; rw [List.take_add_one, h]; simp
      rw [e]; omega
    | some x =>
      rw [hisTo_succ h, List.length_append, List.length_append]
      have h1 : (if x.c = th then [(labW ids x.a, x.d, true)] else []).length ≤ 1 := by split <;> simp
      have h2 : (if x.d = th then [(labW ids x.a, x.c, false)] else []).length ≤ 1 := by split <;> simp
      omega
set_option maxRecDepth 100000 in
set_option maxHeartbeats 8000000 in
theorem history17 (t : Int) (A B V : Option Addr) (n c m d k e : Nat) (th : Int) (xs : List Q4) (ids : List Int) (w : World) (hn : n ≤ 20000) (hx : RdQ w w.heap.size A xs) (hl : xs.length = n) (hv : RdI w w.heap.size V ids) (hlk : ids.length = k) (hk : k ≤ 9223372036854775807) :
    Calls Try.prog 17 #[vCloth t A n c B m d, .int .i64 th, .slice V k e] w fun e w' => ∃ A' n' c', e = .returned (.slice A' n' c') ∧ w'.ownsRow w.heap.size 43 3 (.slice A' n' c') n' (mtsC (hist th (xs.map (relab (labW ids))))) ∧ (hist th (xs.map (relab (labW ids)))).length = n' ∧ Below w.heap.size w w' := by
  have HX := Lib.hid hx
  have HV := Lib.hid hv
  have HL := Lib.hid hl
  have HK := Lib.hid hlk
  have K0 : Has (w.alloc (.cells #[.int .i64 t, .slice A n c, .slice B m d] 30)) w.heap.size 30 [.int .i64 t, .slice A n c, .slice B m d] := Has.new rfl
  have HC0 := Lib.hid K0
  clear hx hv hl hlk K0
  go_enter Try.func17, Try.ntmps17
  go_wp2
  go_loopw [7, 8] (fun v i wr => ∃ (j : Nat) (X : Option Addr) (nx cx : Nat), j ≤ n ∧ i = .int .i64 (j : Int) ∧ v = .slice X nx cx ∧ (hisTo th ids xs j).length = nx ∧ Hid (wr.ownsRow (w.heap.size + 1) 43 3 (.slice X nx cx) nx (mtsC (hisTo th ids xs j))) ∧ Hid (Has wr w.heap.size 30 [.int .i64 t, .slice A n c, .slice B m d]) ∧ Below w.heap.size w wr) (fun _ i _ => n - (intOf i).toNat)
  case atStart => exact ⟨0, none, 0, 0, Nat.zero_le _, rfl, rfl, rfl, Lib.hid (World.ownsRow_nil _ _ _ _), HC0, by go_grown⟩
  case round =>
    clear HC0
    obtain ⟨j, X, nx, cx, hj, rfl, rfl, hnx, HR, HC, hb⟩ := hrel
    obtain ⟨wo, rfl⟩ : ∃ wo : World, wo = wr := ⟨_, rfl⟩
    have a1 : wo.cell? ⟨w.heap.size, 1, none⟩ = some (.slice A n c) := HC.out.cell 1
    have q := HC.out.lt
    by_cases hlt : j < n
    · obtain ⟨x, hx⟩ := get_of_lt (l := xs) (k := j) (by rw [HL.out]; exact hlt)
      obtain ⟨ba, o, rfl, hba, c0, c1, c2, c3⟩ := (HX.out.up hb) j x hx
      have HS := Lib.hid (hisTo_succ (th := th) (ids := ids) hx)
      have hnx2 : nx ≤ 40000 := by have := hisTo_len th ids xs j; omega
      have HNX := Lib.hid hnx
      have jn : (j : Int) < (n : Int) := by omega
      obtain ⟨w5, hw5⟩ : ∃ w5, w5 = wo.alloc (.cells #[.int .i64 x.a, .int .i64 x.b, .int .i64 x.c, .int .i64 x.d] 70) := ⟨_, rfl⟩
      have hb5 : Below wo.heap.size wo w5 := by rw [hw5]; go_grown
      have K5 : Has w5 wo.heap.size 70 [.int .i64 x.a, .int .i64 x.b, .int .i64 x.c, .int .i64 x.d] := by rw [hw5]; exact Has.new rfl
      go_upto_region 6 with (fail)
      rw [← hw5]
      obtain ⟨gx, hgx⟩ : ∃ g, g = wo.heap.size := ⟨_, rfl⟩
      rw [← hgx] at K5 ⊢
      have HR5 := Lib.hid (own_below HR.out hb5)
      have HC5 := Lib.hid (HC.out.below hb5 HC.out.lt)
      have hsz5 : w.heap.size + 1 ≤ w5.heap.size := HC5.out.lt
      have B5 := bvia hb hb5
      have k0 : w5.cell? ⟨gx, 0, none⟩ = some (.int .i64 x.a) := K5.cell 0
      have k2 : w5.cell? ⟨gx, 2, none⟩ = some (.int .i64 x.c) := K5.cell 2
      have k3 : w5.cell? ⟨gx, 3, none⟩ = some (.int .i64 x.d) := K5.cell 3
      have qx := K5.lt
      have HK5 := Lib.hid K5
      obtain ⟨lw, hlw⟩ : ∃ lw, lw = labW ids x.a := ⟨_, rfl⟩
      rw [← hlw] at HS
      have HLW := Lib.hid hlw
      clear hx hw5 hb5 hgx K5 c0 c1 c2 c3 hnx a1 q HR HC hb hba hlw
      go_upto_region 7 with (fail)
      go_cut [32] from 11 to 59 (fun v wx => v = .bool (decide (0 ≤ x.a ∧ x.a < (k : Int))) ∧ wx = w5)
      case first =>
        by_cases h1 : 0 ≤ x.a
        · have d1 : decide (0 ≤ x.a) = true := decide_eq_true h1
          by_cases h2 : x.a < (k : Int)
          · have d2 : decide (x.a < (k : Int)) = true := decide_eq_true h2
            have HE : Hid (decide (0 ≤ x.a ∧ x.a < (k : Int)) = true) := decide_eq_true ⟨h1, h2⟩
            clear h1 h2
            go_wp2
            go_meet
            case rel => exact ⟨by rw [HE.out], rfl⟩
          · have d2 : decide (x.a < (k : Int)) = false := decide_eq_false h2
            have HE : Hid (decide (0 ≤ x.a ∧ x.a < (k : Int)) = false) := decide_eq_false (fun h => h2 h.2)
            clear h1 h2
            go_wp2
            go_meet
            case rel => exact ⟨by rw [HE.out], rfl⟩
        · have d1 : decide (0 ≤ x.a) = false := decide_eq_false h1
          have HE : Hid (decide (0 ≤ x.a ∧ x.a < (k : Int)) = false) := decide_eq_false (fun h => h1 h.1)
          clear h1
          go_wp2
          go_meet
          case rel => exact ⟨by rw [HE.out], rfl⟩
      case rest =>
        obtain ⟨hv, rfl⟩ := hcut
        subst hv
        go_upto_if 32 with (fail)
        go_cut [10] from 11 to 59 (fun v wx => v = .int .i64 lw ∧ wx = wc)
        case first =>
          by_cases hin : 0 ≤ x.a ∧ x.a < (k : Int)
          · have d1 : decide (0 ≤ x.a ∧ x.a < (k : Int)) = true := decide_eq_true hin
            obtain ⟨an, han⟩ := Int.eq_ofNat_of_zero_le hin.1
            obtain ⟨v, hv⟩ := get_of_lt (l := ids) (k := an) (by rw [HK.out]; omega)
            have hlv : Hid (lw = v) := by
              show lw = v
              rw [HLW.out, han, labW_at (lt_of_get hv), List.getD_eq_getElem?_getD, hv]; rfl
            obtain ⟨bv, ov, rfl, hbv, cv⟩ := (HV.out.up B5) an v hv
            rw [han] at k0
            have ank : (an : Int) < (k : Int) := by omega
            rw [d1]
            clear hin d1 hv han
            go_wp2
            go_meet
            case rel => exact ⟨by rw [hlv.out], rfl⟩
          · have d1 : decide (0 ≤ x.a ∧ x.a < (k : Int)) = false := decide_eq_false hin
            have hlv : Hid (lw = -1) := by
              show lw = -1
              rw [HLW.out]; unfold labW; rw [if_neg (by rw [HK.out]; exact hin)]
            rw [d1]
            clear hin d1
            go_wp2
            go_meet
            case rel => exact ⟨by rw [hlv.out], rfl⟩
        case rest =>
          obtain ⟨hv, rfl⟩ := hcut
          subst hv
          go_upto_if 41 with (fail)
          go_cut [7] from 11 to 59 (fun v wx => ∃ (X : Option Addr) (nx2 cx : Nat), v = .slice X nx2 cx ∧ nx2 ≤ nx + 1 ∧ Hid ((hisTo th ids xs j ++ (if x.c = th then [(lw, x.d, true)] else [])).length = nx2) ∧ Hid (wx.ownsRow (w.heap.size + 1) 43 3 (.slice X nx2 cx) nx2 (mtsC (hisTo th ids xs j ++ (if x.c = th then [(lw, x.d, true)] else [])))) ∧ Hid (Has wx w.heap.size 30 [.int .i64 t, .slice (some ⟨ba, o, none⟩) n c, .slice B m d]) ∧ Hid (Has wx gx 70 [.int .i64 x.a, .int .i64 x.b, .int .i64 x.c, .int .i64 x.d]) ∧ Hid (Below w.heap.size w wx))
          case first =>
            by_cases hc : x.c = th
            · have d1 : (x.c == th) = true := by simpa using hc
              have HHC := Lib.hid hc
              have HR6 := Lib.hid (HR5.out.alloc (.cells #[.int .i64 lw, .int .i64 x.d, .bool true] 43))
              have HC6 := Lib.hid (HC5.out.alloc (.cells #[.int .i64 lw, .int .i64 x.d, .bool true] 43))
              have HK6 := Lib.hid (HK5.out.alloc (.cells #[.int .i64 lw, .int .i64 x.d, .bool true] 43))
              clear hc k2
              go_wp2_with (first | (at_builtin; refine wpList_app rfl (.tmp 42) (.tmp 47) _ rfl (w.heap.size + 1) 43 (.agg #[.int .i64 0, .int .i64 0, .bool false]) 3 24 Try.underlying40 infoMt rfl (by omega) (by omega) _ _ _ rfl HR6.out wc.heap.size [.int .i64 lw, .int .i64 x.d, .bool true] rfl rfl (news3 _ _ _ _ _) (one_mt _ _ _) (by omega) (by simp; omega) ?_; intro ga cap1 w7 hg1 hown1 hgrow1 hor1) | fail)
              go_meet
              case rel =>
                refine ⟨some ⟨ga, 0, none⟩, nx + 1, cap1, rfl, Nat.le_refl _, Lib.hid ?_, Lib.hid ?_, Lib.hid ?_, Lib.hid ?_, Lib.hid ?_⟩
                · rw [if_pos HHC.out, List.length_append, HNX.out]; rfl
                · rw [if_pos HHC.out, mtsC_app]; exact hown1
                · exact HC6.out.same (hgrow1.block _ HC6.out.lt (fun e => (HC6.out.ne_own HR6.out (by decide)) e.symm))
                · exact HK6.out.same (hgrow1.block _ HK6.out.lt (fun e => (HK6.out.ne_own HR6.out (by decide)) e.symm))
                · exact (B5.alloc (by omega) _).grown hgrow1 (by simp; omega) (fun r hr => by have := (HR6.out.lt r hr).1; omega)
            · have d1 : (x.c == th) = false := by simpa using hc
              have HHC := Lib.hid hc
              clear hc
              go_wp2
              go_meet
              case rel => exact ⟨X, nx, cx, rfl, Nat.le_succ _, Lib.hid (by rw [if_neg HHC.out, List.append_nil]; exact HNX.out), Lib.hid (by rw [if_neg HHC.out, List.append_nil]; exact HR5.out), HC5, HK5, Lib.hid B5⟩
          case rest =>
            obtain ⟨X2, nx2, cx2, rfl, hn2, HL2, HR7, HC7, HK7, HB7⟩ := hcut
            have k2 : wc.cell? ⟨gx, 2, none⟩ = some (.int .i64 x.c) := HK7.out.cell 2
            have k3 : wc.cell? ⟨gx, 3, none⟩ = some (.int .i64 x.d) := HK7.out.cell 3
            have qx := HK7.out.lt
            have hsz7 : w.heap.size + 1 ≤ wc.heap.size := HC7.out.lt
            by_cases hd : x.d = th
            · have d1 : (x.d == th) = true := by simpa using hd
              have HHD := Lib.hid hd
              have HR8 := Lib.hid (HR7.out.alloc (.cells #[.int .i64 lw, .int .i64 x.c, .bool false] 43))
              have HC8 := Lib.hid (HC7.out.alloc (.cells #[.int .i64 lw, .int .i64 x.c, .bool false] 43))
              clear hd
              go_wp2_with (first | (at_builtin; refine wpList_app rfl (.tmp 53) (.tmp 58) _ rfl (w.heap.size + 1) 43 (.agg #[.int .i64 0, .int .i64 0, .bool false]) 3 24 Try.underlying40 infoMt rfl (by omega) (by omega) _ _ _ rfl HR8.out wc.heap.size [.int .i64 lw, .int .i64 x.c, .bool false] rfl rfl (news3 _ _ _ _ _) (one_mt _ _ _) (by omega) (by simp; omega) ?_; intro ga cap1 w9 hg1 hown1 hgrow1 hor1) | fail)
              go_roundw
              case rel =>
                refine ⟨j + 1, some ⟨ga, 0, none⟩, nx2 + 1, cap1, by omega, by go_num, rfl, ?_, Lib.hid ?_, Lib.hid ?_, ?_⟩
                · rw [HS.out, if_pos HHD.out, ← List.append_assoc, List.length_append, HL2.out]; rfl
                · rw [HS.out, if_pos HHD.out, ← List.append_assoc, mtsC_app]; exact hown1
                · exact HC8.out.same (hgrow1.block _ HC8.out.lt (fun e => (HC8.out.ne_own HR8.out (by decide)) e.symm))
                · exact (HB7.out.alloc (by omega) _).grown hgrow1 (by simp; omega) (fun r hr => by have := (HR8.out.lt r hr).1; omega)
              case measure => first | (simp [intOf]; done) | (simp [intOf]; omega)
            · have d1 : (x.d == th) = false := by simpa using hd
              have HHD := Lib.hid hd
              clear hd
              go_wp2
              go_roundw
              case rel => exact ⟨j + 1, X2, nx2, cx2, by omega, by go_num, rfl, by rw [HS.out, if_neg HHD.out, List.append_nil]; exact HL2.out, Lib.hid (by rw [HS.out, if_neg HHD.out, List.append_nil]; exact HR7.out), HC7, HB7.out⟩
              case measure => first | (simp [intOf]; done) | (simp [intOf]; omega)
    · obtain rfl : n = j := by omega
      have HE : Hid (hisTo th ids xs n = hist th (xs.map (relab (labW ids)))) := by show _ = _; unfold hisTo; rw [List.take_of_length_le (by rw [HL.out]; exact Nat.le_refl _)]
      go_wp2
      go_ret
      exact ⟨X, nx, cx, rfl, by rw [← HE.out]; exact own_mono HR.out (Nat.le_succ _), by rw [← HE.out]; exact hnx, hb⟩
end Go.Proofs.Ytpljaoagiaijiaa
