/-
  Contract of cloth.Make: the cloth that a valid sheet makes.
-/
import Derived.Test.YtdimfbmbomgiaaaV5
import Derived.Test.YtdimfbmbomgiaaaV7
import Derived.Test.YtdimfbmbomgiaaaV8
import Derived.Deep.Cut
import Derived.BigQuiet
namespace Go.Proofs.Ytdimfbmbomgiaaa
open Go.RowKit
/-- an ending: a cloth in memory, and an error -/
def RetCE (t : Int) (xs ps : List Q4) (err : Int) (w : World) (e : Ending) (w' : World) : Prop := ∃ A n c B m d, e = .returned (.tuple #[vCloth t A n c B m d, .int .i64 err]) ∧ RdQ w' w'.heap.size A xs ∧ RdQ w' w'.heap.size B ps ∧ xs.length = n ∧ ps.length = m ∧ n ≤ c ∧ c ≤ 9223372036854775807 ∧ m ≤ d ∧ d ≤ 9223372036854775807 ∧ Below w.heap.size w w'
theorem qsC_len (ws : List Q4) : (qsC ws).length = ws.length * 4 := by
  induction ws with
  | nil => rfl
  | cons x ws ih => simp only [qsC, List.flatMap_cons, List.length_append] at ih ⊢; rw [ih]; simp [q4C]; omega
theorem qsC_get {ws : List Q4} {k : Nat} {x : Q4} (hx : ws[k]? = some x) : (qsC ws)[k*4]? = some (.int .i64 x.a) ∧ (qsC ws)[k*4+1]? = some (.int .i64 x.b) ∧ (qsC ws)[k*4+2]? = some (.int .i64 x.c) ∧ (qsC ws)[k*4+3]? = some (.int .i64 x.d) := by
  induction ws generalizing k with
  | nil => simp at hx
  | cons y ws ih =>
    cases k with
    | zero => simp at hx; subst hx; simp [qsC, q4C]
    | succ k =>
      have := ih (k := k) (by simpa using hx)
      have e1 : (k + 1) * 4 = k * 4 + 4 := by omega
      simp only [qsC, List.flatMap_cons] at this ⊢
      rw [e1]
      have hl : (q4C y).length = 4 := rfl
      refine ⟨?_, ?_, ?_, ?_⟩ <;> (rw [List.getElem?_append_right (by rw [hl]; omega), hl])
      · rw [show k * 4 + 4 - 4 = k * 4 by omega]; exact this.1
      · rw [show k * 4 + 4 + 1 - 4 = k * 4 + 1 by omega]; exact this.2.1
      · rw [show k * 4 + 4 + 2 - 4 = k * 4 + 2 by omega]; exact this.2.2.1
      · rw [show k * 4 + 4 + 3 - 4 = k * 4 + 3 by omega]; exact this.2.2.2
theorem own_rdQ {w : World} {base : Nat} {e : TypeId} {n c : Nat} {A : Option Addr} {ws : List Q4} (h : w.ownsRow base e 4 (.slice A n c) n (qsC ws)) : RdQ w w.heap.size A ws := fun k x hx => by
  obtain ⟨e1, e2, e3, e4⟩ := qsC_get hx
  obtain ⟨g, h1, _, h2, h3⟩ := own_at h e1
  obtain ⟨g2, h4, _, _, h5⟩ := own_at h e2
  obtain ⟨g3, h6, _, _, h7⟩ := own_at h e3
  obtain ⟨g4, h8, _, _, h9⟩ := own_at h e4
  obtain rfl : g = g2 := by rw [h1] at h4; injection h4 with h4; injection h4
  obtain rfl : g = g3 := by rw [h1] at h6; injection h6 with h6; injection h6
  obtain rfl : g = g4 := by rw [h1] at h8; injection h8 with h8; injection h8
  exact ⟨g, 0, h1, h2, by rw [Nat.zero_add]; exact h3, by rw [Nat.zero_add]; exact h5, by rw [Nat.zero_add]; exact h7, by rw [Nat.zero_add]; exact h9⟩
set_option maxRecDepth 100000 in
set_option maxHeartbeats 4000000 in
theorem make11 (p : Int) (A : Option Addr) (n c : Nat) (ws : List Wk) (w : World) (hn : n ≤ 9223372036854775807) (hw : RdW w w.heap.size A ws) (hl : ws.length = n) (hE : schk p ws = 0) :
    Calls Try.prog 52 #[.agg #[.int .i64 p, .slice A n c]] w (RetCE (2 * p) (Mk.works ws n).xs (Mk.works ws n).ps 0 w) := by
  have HOK := Lib.hid (schk_zero hE)
  have hp2 := HOK.out.ge
  have hp24 := HOK.out.le
  have hn4 : n ≤ 400 := by rw [← hl]; exact HOK.out.len
  have HSZ := Lib.hid (fun k => Mk.works_xs HOK.out.short k)
  have C1 := Lib.hid (fun (W : World) (hb : Below w.heap.size w W) => shCheck p A n c ws W hn (hw.up hb) hl (fun x hx => Nat.le_trans (HOK.out.short x hx) (by omega)))
  rw [hE] at C1
  have HW := Lib.hid hw
  have HL := Lib.hid hl
  clear hw hl hE
  have i0 : IntKind.i64.wrap (2 * p) = 2 * p := IntWalk.i64_in _ (by omega)
  go_enter Try.func52, Try.ntmps52
  go_wp2_with fail
  refine (C1.out _ (by go_grown)).mono ?_
  rintro e w1 ⟨rfl, hb1⟩
  have K1 : Has w1 w.heap.size 24 [.int .i64 p, .slice A n c] := ((Has.new rfl).alloc _).below hb1 (by simp; omega)
  have K2 : Has w1 (w.heap.size + 1) 49 [.int .i64 0, .slice none 0 0, .slice none 0 0] := (Has.new2 rfl).below hb1 (by simp)
  have B1 : Below w.heap.size w w1 := bvia (show Below w.heap.size w _ by go_grown) hb1
  have a0 : w1.cell? ⟨w.heap.size, 0, none⟩ = some (.int .i64 p) := K1.cell 0
  have q := K1.lt
  have qq := K2.lt
  go_wp2_with fail
  refine (begun57 _).mono ?_
  rintro e w2 ⟨rfl, hb2⟩
  have hlen : ((lineL 48).map vInt).length = 48 := by simp [lineL_len]
  have hinfo : (Try.prog.info? 109).map (·.size) = some 48 := by kernel_rfl
  have K3 : Has (w1.alloc (.cells #[.int .i64 (2 * p), .slice none 0 0, .slice none 0 0] 49)) w1.heap.size 49 [.int .i64 (2 * p), .slice none 0 0, .slice none 0 0] := Has.new rfl
  have L3 := Lib.hid (K3.below hb2 K3.lt)
  have B2 : Below w1.heap.size w1 w2 := bvia (show Below w1.heap.size w1 _ by go_grown) hb2
  clear K3 a0 q hb1
  go_wp2_with (first | (refine wpList_store_has rfl 109 (.tmp 6) (.tmp 28) rfl w2.heap.size ((lineL 48).map vInt) rfl rfl 109 _ (Has.new rfl) (by rw [hlen, hinfo]) (by rw [hlen]; rfl) (by simp [lineL]; intros; rfl) ?_) | fail)
  intro w3 hG3 hBut
  have hb3 : Below w2.heap.size w2 w3 := ((Below.refl _ w2).alloc (Nat.le_refl _) _).trans (hBut.below (Nat.le_refl _) (by simp))
  have B3 := bvia B2 hb3
  have M1 := Lib.hid (K1.below B3 K1.lt)
  have M2 := Lib.hid (K2.below B3 K2.lt)
  have MC := L3.out.below hb3 L3.out.lt
  obtain ⟨gc, hgc⟩ : ∃ gc, gc = w1.heap.size := ⟨_, rfl⟩
  obtain ⟨gl, hgl⟩ : ∃ gl, gl = w2.heap.size := ⟨_, rfl⟩
  have hcl : gc < gl := by rw [hgc, hgl]; exact L3.out.lt
  have hwc : w.heap.size + 1 < gc := by rw [hgc]; exact K2.lt
  have h3 := hG3.lt
  rw [← hgl] at hG3 h3 ⊢
  rw [← hgc] at MC B3 ⊢
  have HI0 : Hid (MkI w1 w3 gc gl (gl + 1) (2 * p) (Mk.works ws 0) none 0 0 none 0 0) := ⟨MC, hG3, World.ownsRow_nil _ _ _ _, World.ownsRow_nil _ _ _ _, B3, Nat.le_of_eq hgc, hcl, Nat.lt_succ_self _, h3, rfl, rfl⟩
  have HWC := Lib.hid hgc
  have KK2 := Lib.hid K2
  have a1 : w3.cell? ⟨w.heap.size, 1, none⟩ = some (.slice A n c) := M1.out.cell 1
  have q := M1.out.lt
  clear hG3 hBut hlen hinfo L3 K1 K2 qq MC hb2 B2 hb3 hgc hgl h3
  go_wp2
  go_loopw [32] (fun i wr => ∃ (k : Nat) (X : Option Addr) (nx cx : Nat) (P : Option Addr) (np cp : Nat), k ≤ n ∧ i = .int .i64 (k : Int) ∧ Hid (MkI w1 wr gc gl (gl + 1) (2 * p) (Mk.works ws k) X nx cx P np cp)) (fun i _ => n - (intOf i).toNat)
  case atStart => exact ⟨0, none, 0, 0, none, 0, 0, Nat.zero_le _, rfl, HI0⟩
  case round =>
    clear HI0 B3 M1 M2 a1 q
    obtain ⟨k, X, nx, cx, P, np, cp, hk, rfl, HI⟩ := hrel
    obtain ⟨wo, rfl⟩ : ∃ wo : World, wo = wr := ⟨_, rfl⟩
    have hz := HI.out.sz
    by_cases hlt : k < n
    · obtain ⟨x, hx⟩ := get_of_lt (l := ws) (k := k) (by rw [HL.out]; exact hlt)
      obtain ⟨hkd, ha0, ha1, hk2⟩ := bad_at (HOK.out.good x (mem_of_get hx))
      have hsz := HOK.out.short x (mem_of_get hx)
      have hform := Lib.hid (HOK.out.form x (mem_of_get hx))
      obtain ⟨a, ha⟩ := Int.eq_ofNat_of_zero_le ha0
      obtain ⟨mid, hmid⟩ : ∃ mid, mid = 2 * a + 1 := ⟨_, rfl⟩
      have hmid2 : mid + 2 < 48 := by omega
      have hmid1 : 1 ≤ mid := by omega
      have i1 : IntKind.i64.wrap (2 * (a : Int)) = 2 * (a : Int) := IntWalk.i64_in _ (by omega)
      have i2 : IntKind.i64.wrap (2 * (a : Int) + 1) = (mid : Int) := by rw [IntWalk.i64_in _ (by omega), hmid]; omega
      have HMM : Hid (mkMid x = mid) := by show mkMid x = mid; unfold mkMid; rw [ha, hmid]; simp
      obtain ⟨ba, o, rfl, hba, c0, c1, c2⟩ := (HW.out.up (B1.trans (HI.out.b.mono (by omega)))) _ x hx
      have HXA : Hid (x.at_ = (a : Int)) := ha
      rw [ha] at c1
      have HX := Lib.hid hx
      have jn : (k : Int) < (n : Int) := by omega
      clear hx ha0 ha1 hmid ha
      obtain ⟨w5, hw5⟩ : ∃ w5, w5 = (wo.alloc (.cells #[.int .i64 (k : Int)] 3)).alloc (.cells #[.int .i64 x.kind, .int .i64 (a : Int), .string x.word] 63) := ⟨_, rfl⟩
      have hb5 : Below wo.heap.size wo w5 := by rw [hw5]; go_grown
      have N1 : Has w5 wo.heap.size 3 [.int .i64 (k : Int)] := by rw [hw5]; exact (Has.new rfl).alloc _
      have N2 : Has w5 (wo.heap.size + 1) 63 [.int .i64 x.kind, .int .i64 (a : Int), .string x.word] := by rw [hw5]; exact Has.new2 rfl
      go_upto_region 9 with (fail)
      rw [← hw5]
      have k1 : w5.cell? ⟨wo.heap.size + 1, 1, none⟩ = some (.int .i64 (a : Int)) := N2.cell 1
      have q5 := N2.lt
      obtain ⟨w6, hw6⟩ : ∃ w6, w6 = w5.alloc (.cells #[.int .i64 (mid : Int)] 3) := ⟨_, rfl⟩
      have hb6 : Below w5.heap.size w5 w6 := by rw [hw6]; go_grown
      have N3 : Has w6 w5.heap.size 3 [.int .i64 (mid : Int)] := by rw [hw6]; exact Has.new rfl
      clear hw5
      go_upto_region 10 with (fail)
      rw [← hw6]
      have HI6 := Lib.hid ((HI.out.below hb5).below hb6)
      obtain ⟨gi, hgi⟩ : ∃ gi, gi = wo.heap.size := ⟨_, rfl⟩
      obtain ⟨gw, hgw⟩ : ∃ gw, gw = wo.heap.size + 1 := ⟨_, rfl⟩
      obtain ⟨gm, hgm⟩ : ∃ gm, gm = w5.heap.size := ⟨_, rfl⟩
      have HJ6 : Hid (MkJ w6 (gl + 1) gi gw gm (k : Int) x mid) := by
        refine ⟨?_, ?_, ?_, by omega, by omega, by have := hb5.size; omega⟩
        · rw [hgi]; exact N1.below hb6 N1.lt
        · rw [hgw]; unfold wkCells; rw [HXA.out]; exact N2.below hb6 N2.lt
        · rw [hgm]; exact N3
      rw [← hgm]
      rw [← hgw]
      rw [← hgi]
      have k0 : w6.cell? ⟨gw, 0, none⟩ = some (.int .i64 x.kind) := HJ6.out.w.cell 0
      have k2 : w6.cell? ⟨gw, 2, none⟩ = some (.string x.word) := HJ6.out.w.cell 2
      have q6 := HJ6.out.w.lt
      clear hw6 N1 N2 N3 hb5 hb6 k1 c0 c1 c2 hba HI hgi hgw hgm q5 i1 i2 hz
      have HNX : Hid (nx ≤ 19200 ∧ np ≤ 6800) := by
        have h1 := HI6.out.nxs; have h2 := HI6.out.nps
        obtain ⟨h3, h4⟩ := HSZ.out k
        exact ⟨by omega, by omega⟩
      have HSW := Lib.hid (Mk.works_succ HX.out)
      have HLS := Lib.hid (Mk.works_len ws k)
      by_cases hk : x.kind = 2
      · have hz0 := hk2 hk
        have HWK : Hid (Mk.works ws (k + 1) = (Mk.works ws k).pin (k : Int) mid) := by
          show Mk.works ws (k + 1) = (Mk.works ws k).pin (k : Int) mid
          rw [HSW.out]
          unfold Mk.work
          rw [if_pos hk, HMM.out, show x.word.data.toList.length = 0 by rw [str_len]; exact hz0]
          rfl
        have J := Lib.hid (pinMk HI6.out HJ6.out HLS.out (by omega) (by have := HNX.out; omega))
        clear hk2
        go_wp2_with fail
        refine J.out.mono ?_
        rintro e w7 ⟨⟨v, rfl⟩, P', c', hi7, hj7⟩
        have HI7 := Lib.hid hi7; clear hi7
        have k7 : w7.cell? ⟨gw, 2, none⟩ = some (.string x.word) := hj7.w.cell 2
        have q7 := hj7.w.lt
        clear J HI6 HJ6 k0 k2 q6
        go_wp2
        go_loopw [50] (fun i wr => i = .int .i64 0 ∧ Hid (w7 = wr)) (fun i _ => 0)
        case atStart => exact ⟨rfl, Lib.hid rfl⟩
        case round =>
          obtain ⟨rfl, HE⟩ := hrel
          go_wp2
          go_roundw
          case rel => exact ⟨k + 1, X, nx, cx, P', np + 1, c', by omega, by go_num, Lib.hid (by rw [HWK.out, ← HE.out]; exact HI7.out)⟩
          case measure => first | (simp [intOf]; done) | (simp [intOf]; omega)
      · have hd : (x.kind == 2) = false := by simpa using hk
        have hm : x.word.data.toList.length = x.word.size := str_len _
        have HWK : Hid (Mk.works ws (k + 1) = (Mk.works ws k).letters (k : Int) mid x.word.data.toList x.word.size) := by
          show Mk.works ws (k + 1) = (Mk.works ws k).letters (k : Int) mid x.word.data.toList x.word.size
          rw [HSW.out]
          unfold Mk.work
          rw [if_neg hk, HMM.out, hm]
        have hsz64 : x.word.size ≤ 9223372036854775807 := by omega
        clear hk2 hm
        go_wp2
        go_loopw [50] (fun i wr => ∃ (j : Nat) (X : Option Addr) (nx cx : Nat) (P : Option Addr) (np cp : Nat), j ≤ x.word.size ∧ i = .int .i64 (j : Int) ∧ Hid (MkI w1 wr gc gl (gl + 1) (2 * p) ((Mk.works ws k).letters (k : Int) mid x.word.data.toList j) X nx cx P np cp) ∧ Hid (MkJ wr (gl + 1) gi gw gm (k : Int) x mid)) (fun i _ => x.word.size - (intOf i).toNat)
        case atStart => exact ⟨0, X, nx, cx, P, np, cp, Nat.zero_le _, rfl, HI6, HJ6⟩
        case round =>
          clear HI6 HJ6 k0 k2 q6 HNX
          obtain ⟨j, X, nx, cx, P, np, cp, hj, rfl, HI, HJ⟩ := hrel
          obtain ⟨wo, rfl⟩ : ∃ wo : World, wo = wr := ⟨_, rfl⟩
          by_cases hlj : j < x.word.size
          · have hget : x.word.data.toList[j]? = some x.word[j] := by
              rw [Array.getElem?_toList]
              exact Array.getElem?_eq_getElem hlj
            have hlet : isLet x.word[j] = true := (List.all_eq_true.1 hform.out) _ (mem_of_get hget)
            have jm : (j : Int) < (x.word.size : Int) := by omega
            have HNX : Hid (nx ≤ 19200 + 48 ∧ np ≤ 6800 + 16) := by
              have h1 := HI.out.nxs; have h2 := HI.out.nps
              obtain ⟨h3, h4⟩ := HSZ.out k
              have h5 := Mk.letters_xs (Mk.works ws k) (k : Int) mid x.word.data.toList j
              have h6 := Mk.letters_ps (Mk.works ws k) (k : Int) mid x.word.data.toList j
              exact ⟨by omega, by omega⟩
            have HLL := Lib.hid ((Mk.letters_len (Mk.works ws k) (k : Int) mid x.word.data.toList j).trans HLS.out)
            have HLE := Lib.hid (Mk.letters_succ (s := Mk.works ws k) (i := (k : Int)) (mid := mid) hget)
            have k2 : wo.cell? ⟨gw, 2, none⟩ = some (.string x.word) := HJ.out.w.cell 2
            have q6 := HJ.out.w.lt
            by_cases hc : x.word[j] = 80
            · have hc2 : ((x.word[j].toNat : Int) == 80) = true := by rw [hc]; rfl
              have HLE2 : Hid ((Mk.works ws k).letters (k : Int) mid x.word.data.toList (j + 1) = ((Mk.works ws k).letters (k : Int) mid x.word.data.toList j).pin (k : Int) mid) := by
                show (Mk.works ws k).letters (k : Int) mid x.word.data.toList (j + 1) = _
                rw [HLE.out]
                unfold Mk.letter
                rw [if_pos hc]
              have J := Lib.hid (pinMk HI.out HJ.out HLL.out (by omega) (by have := HNX.out; omega))
              clear hget hlet hc
              go_wp2_with fail
              refine J.out.mono ?_
              rintro e w7 ⟨⟨v, rfl⟩, P', c', hi7, hj7⟩
              have HI7 := Lib.hid hi7; clear hi7
              have HJ7 := Lib.hid hj7; clear hj7
              clear J HI HJ k2 q6
              go_wp2
              go_roundw
              case rel => exact ⟨j + 1, X, nx, cx, P', np + 1, c', by omega, by go_num, Lib.hid (by rw [HLE2.out]; exact HI7.out), HJ7⟩
              case measure => first | (simp [intOf]; done) | (simp [intOf]; omega)
            · have hc2 : ((x.word[j].toNat : Int) == 80) = false := by
                rw [beq_eq_false_iff_ne]
                intro hh
                exact hc (UInt8.toNat_inj.1 (show x.word[j].toNat = 80 by omega))
              have HLE2 : Hid ((Mk.works ws k).letters (k : Int) mid x.word.data.toList (j + 1) = ((Mk.works ws k).letters (k : Int) mid x.word.data.toList j).crosses (k : Int) mid (crW [x.word[j]] 1) (crW [x.word[j]] 1).length) := by
                show (Mk.works ws k).letters (k : Int) mid x.word.data.toList (j + 1) = _
                rw [HLE.out]
                unfold Mk.letter
                rw [if_neg hc]
              have i3 : IntKind.i64.wrap ((j : Int) + 1) = (j : Int) + 1 := IntWalk.i64_in _ (by omega)
              have i4 : ((j : Int) + 1).toNat = j + 1 := by omega
              have i5 : (j : Int) + 1 ≤ (x.word.size : Int) := by omega
              have SL := fun W => slice1 x.word j hlj W
              obtain ⟨he1, he2⟩ := ext_ok hlj hlet
              have J := Lib.hid (crossings39o (x.word.extract j (j + 1)) wo (by omega) he2)
              rw [he1, ext_one x.word j hlj] at J
              obtain ⟨ns, hns⟩ : ∃ ns, ns = crW [x.word[j]] 1 := ⟨_, rfl⟩
              have HNS : Hid (ns.length ≤ 3 ∧ ∀ n ∈ ns, n ≠ 0 ∧ -3 ≤ n ∧ n ≤ 3) := by rw [hns]; exact ⟨crW_len _ 1, crL_mem _⟩
              rw [← hns] at J HLE2
              clear hget hlet hc he1 he2 hns HLE i3
              have i3 : IntKind.i64.wrap ((j : Int) + 1) = (j : Int) + 1 := IntWalk.i64_in _ (by omega)
              go_wp2_with fail
              refine J.out.mono ?_
              rintro e w7 ⟨An, nn, cn, rfl, rn, ln, hb7⟩
              have HRN := Lib.hid (own_mono rn HI.out.sz); clear rn
              have HI7 := Lib.hid (HI.out.below hb7)
              have HJ7 := Lib.hid (HJ.out.below hb7)
              have HLN := Lib.hid ln
              have hnn3 : nn ≤ 3 := by rw [← ln]; exact HNS.out.1
              clear J HI HJ k2 q6 SL i3 i4 i5 hc2 hb7 ln
              go_wp2
              go_loopw [72] (fun i wr => ∃ (q : Nat) (X : Option Addr) (nx cx : Nat), q ≤ nn ∧ i = .int .i64 (q : Int) ∧ Hid (MkI w1 wr gc gl (gl + 1) (2 * p) (((Mk.works ws k).letters (k : Int) mid x.word.data.toList j).crosses (k : Int) mid ns q) X nx cx P np cp) ∧ Hid (MkJ wr (gl + 1) gi gw gm (k : Int) x mid) ∧ Hid (wr.ownsRow (gl + 1) 3 1 (.slice An nn cn) nn (ns.map vInt))) (fun i _ => nn - (intOf i).toNat)
              case atStart => exact ⟨0, X, nx, cx, Nat.zero_le _, rfl, HI7, HJ7, HRN⟩
              case round =>
                clear HI7 HJ7 HRN HNX
                obtain ⟨q, X, nx, cx, hq, rfl, HI, HJ, HRN⟩ := hrel
                obtain ⟨wo, rfl⟩ : ∃ wo : World, wo = wr := ⟨_, rfl⟩
                by_cases hlq : q < nn
                · obtain ⟨u, hu⟩ := get_of_lt (l := ns) (k := q) (by rw [HLN.out]; exact hlq)
                  obtain ⟨hu0, hu1, hu2⟩ := HNS.out.2 u (mem_of_get hu)
                  obtain ⟨gn, rfl, hgn, hgn2, hcu⟩ := own_at HRN.out (j := q) (u := vInt u) (by rw [List.getElem?_map, hu]; rfl)
                  have HNX : Hid (nx ≤ 19200 + 51) := by
                    have h1 := HI.out.nxs
                    obtain ⟨h3, h4⟩ := HSZ.out k
                    have h5 := Mk.letters_xs (Mk.works ws k) (k : Int) mid x.word.data.toList j
                    have h6 := Mk.crosses_xs ((Mk.works ws k).letters (k : Int) mid x.word.data.toList j) (k : Int) mid ns q
                    show nx ≤ 19200 + 51
                    omega
                  have HLL2 := Lib.hid ((Mk.crosses_len ((Mk.works ws k).letters (k : Int) mid x.word.data.toList j) (k : Int) mid ns q).trans HLL.out)
                  have HCE := Lib.hid (Mk.crosses_succ (s := (Mk.works ws k).letters (k : Int) mid x.word.data.toList j) (i := (k : Int)) (mid := mid) hu)
                  have km : wo.cell? ⟨gm, 0, none⟩ = some (.int .i64 (mid : Int)) := HJ.out.m.cell 0
                  have qn : (q : Int) < (nn : Int) := by omega
                  have qm := HJ.out.m.lt
                  have i1 : IntKind.i64.wrap ((mid : Int) - 2) = (mid : Int) - 2 := IntWalk.i64_in _ (by omega)
                  have i2 : IntKind.i64.wrap (-u) = -u := IntWalk.i64_in _ (by omega)
                  obtain ⟨t, ht⟩ : ∃ t : Nat, (mid : Int) - 2 + (if u < -u then -u else u) = (t : Int) := Int.eq_ofNat_of_zero_le (by split <;> omega)
                  have ht48 : t + 1 < 48 := by split at ht <;> omega
                  have HMA : Hid (mkAt mid u = (t : Int)) := ht
                  obtain ⟨la, hla⟩ := get_of_lt (l := (((Mk.works ws k).letters (k : Int) mid x.word.data.toList j).crosses (k : Int) mid ns q).l) (k := t) (by rw [HLL2.out]; omega)
                  obtain ⟨lb, hlb⟩ := get_of_lt (l := (((Mk.works ws k).letters (k : Int) mid x.word.data.toList j).crosses (k : Int) mid ns q).l) (k := t + 1) (by rw [HLL2.out]; omega)
                  have HLA := Lib.hid hla
                  have HLB := Lib.hid hlb
                  go_upto_region 23 with (fail)
                  clear ht hla hlb km qm i1 i2 hcu qn
                  have j1 : (t : Int) < 48 := by omega
                  have j2 : t < 48 := by omega
                  have j3 : IntKind.i64.wrap ((t : Int) + 1) = (t : Int) + 1 := IntWalk.i64_in _ (by omega)
                  have j4 : (t : Int) + 1 < 48 := by omega
                  have j5 : (0 : Int) ≤ (t : Int) + 1 := by omega
                  have j6 : ((t : Int) + 1).toNat = t + 1 := by omega
                  have ki : wo.cell? ⟨gi, 0, none⟩ = some (.int .i64 (k : Int)) := HJ.out.i.cell 0
                  have ka : wo.cell? ⟨gl, t, none⟩ = some (.int .i64 la) := (HI.out.g.cell t).trans (by rw [List.getElem?_map, HLA.out]; rfl)
                  have kb : wo.cell? ⟨gl, t + 1, none⟩ = some (.int .i64 lb) := (HI.out.g.cell (t + 1)).trans (by rw [List.getElem?_map, HLB.out]; rfl)
                  have qi := HJ.out.i.lt
                  have ql := HI.out.g.lt
                  go_region_held3 (fun W => W.cell? ⟨gi, 0, none⟩ = some (.int .i64 (k : Int)) ∧ W.cell? ⟨gl, t, none⟩ = some (.int .i64 la) ∧ W.cell? ⟨gl, t + 1, none⟩ = some (.int .i64 lb)) (go_keep) (fail)
                  obtain ⟨w5, hw5⟩ : ∃ w5, w5 = (wo.alloc (.cells #[.int .i64 (k : Int), .int .i64 (t : Int), .int .i64 la, .int .i64 lb] 83)).drew := ⟨_, rfl⟩
                  rw [← hw5]
                  obtain ⟨gx, hgx⟩ : ∃ gx, gx = wo.heap.size := ⟨_, rfl⟩
                  rw [← hgx]
                  have hb5 : Below wo.heap.size wo w5 := by rw [hw5]; exact ((Below.refl _ wo).alloc (Nat.le_refl _) _).drew
                  have K5 : Has w5 gx 83 [.int .i64 (k : Int), .int .i64 (t : Int), .int .i64 la, .int .i64 lb] := by rw [hw5, hgx]; exact (Has.new rfl).drew
                  have HGX := Lib.hid hgx
                  clear hgx
                  clear ki ka kb j1 j2 j3 j4 j5 j6 hw5 qi ql
                  by_cases hneg : u < 0
                  · obtain ⟨w6, hw6⟩ : ∃ w6, w6 = (w5.setCell ⟨gx, 2, none⟩ (.int .i64 lb)).setCell ⟨gx, 3, none⟩ (.int .i64 la) := ⟨_, rfl⟩
                    have hb6 : Below wo.heap.size wo w6 := by rw [hw6, HGX.out]; exact (hb5.setCell (Nat.le_refl _) _).setCell (Nat.le_refl _) _
                    have K6 : Has w6 gx 83 [.int .i64 (k : Int), .int .i64 (t : Int), .int .i64 lb, .int .i64 la] := by rw [hw6]; exact ((K5.set 2 _).set 3 _)
                    have x2 : w5.cell? ⟨gx, 2, none⟩ = some (.int .i64 la) := K5.cell 2
                    have x3 : w5.cell? ⟨gx, 3, none⟩ = some (.int .i64 lb) := K5.cell 3
                    have f2 := K5.free 2
                    have f3 := K5.free 3
                    have qx := K5.lt
                    go_upto_region 26 with (fail)
                    rw [← hw6]
                    clear hw6 x2 x3 f2 f3 qx
                    have HI6 := HI.out.below hb6
                    have HI6a := Lib.hid (HI6.below ((Below.refl _ w6).alloc (Nat.le_refl _) (.cells #[.int .i64 (k : Int), .int .i64 (t : Int), .int .i64 lb, .int .i64 la] 83)))
                    have HJ6a := Lib.hid ((HJ.out.below hb6).below ((Below.refl _ w6).alloc (Nat.le_refl _) (.cells #[.int .i64 (k : Int), .int .i64 (t : Int), .int .i64 lb, .int .i64 la] 83)))
                    have HR6a := Lib.hid (own_below (own_below HRN.out hb6) ((Below.refl _ w6).alloc (Nat.le_refl _) (.cells #[.int .i64 (k : Int), .int .i64 (t : Int), .int .i64 lb, .int .i64 la] 83)))
                    have y1 : w6.cell? ⟨gc, 1, none⟩ = some (.slice X nx cx) := HI6.c.cell 1
                    have qc := HI6.c.lt
                    have x0 : w6.cell? ⟨gx, 0, none⟩ = some (.int .i64 (k : Int)) := K6.cell 0
                    have x1 : w6.cell? ⟨gx, 1, none⟩ = some (.int .i64 (t : Int)) := K6.cell 1
                    have x2 : w6.cell? ⟨gx, 2, none⟩ = some (.int .i64 lb) := K6.cell 2
                    have x3 : w6.cell? ⟨gx, 3, none⟩ = some (.int .i64 la) := K6.cell 3
                    have qx := K6.lt
                    have hbs : gl + 1 ≤ w6.heap.size := HI6.sz
                    clear HI6 K6 hb6
                    go_wp2_with (first | (at_builtin; refine wpList_app rfl (.tmp 102) (.tmp 104) _ rfl (gl + 1) 83 (.agg #[.int .i64 0, .int .i64 0, .int .i64 0, .int .i64 0]) 4 32 Try.underlying46 infoCr rfl (by omega) (by omega) _ _ _ rfl HI6a.out.ox w6.heap.size [.int .i64 (k : Int), .int .i64 (t : Int), .int .i64 lb, .int .i64 la] rfl rfl (news4 _ _ _ _ _ _) (one4 _ _ _ _) (by have := HNX.out; omega) (by simp; omega) ?_; intro ga cap1 w7 hg1 hown1 hgrow1 hor1; have HC7 : Has w7 gc _ _ := HI6a.out.c.same (hgrow1.block gc HI6a.out.c.lt (fun e => (HI6a.out.c.ne_own HI6a.out.ox (by decide)) e.symm)); have z1 : w7.cell? ⟨gc, 1, none⟩ = some (.slice X nx cx) := HC7.cell 1; have f1 := HC7.free 1; have q7 := HC7.lt) | fail)
                    have HI8 := Lib.hid (HI6a.out.crossed ⟨(k : Int), (t : Int), lb, la⟩ hown1 hgrow1)
                    have HJ8 := Lib.hid (HJ6a.out.crossed HI6a.out hgrow1 (.slice (some ⟨ga, 0, none⟩) (nx + 1) cap1))
                    have HR8 := Lib.hid (row_crossed HR6a.out HI6a.out hgrow1 (.slice (some ⟨ga, 0, none⟩) (nx + 1) cap1))
                    refine (swap65 gl t _ la lb _ HI8.out.g ht48 (by rw [List.getElem?_map, HLA.out]; rfl) (by rw [List.getElem?_map, HLB.out]; rfl)).mono ?_
                    rintro e w9 ⟨⟨v, rfl⟩, hg9, hk9, _⟩
                    have HI9 := Lib.hid (HI8.out.swapped (((((Mk.works ws k).letters (k : Int) mid x.word.data.toList j).crosses (k : Int) mid ns q).l.set t lb).set (t + 1) la) (by rw [List.map_set, List.map_set]; exact hg9) hk9)
                    have HJ9 := Lib.hid (HJ8.out.swapped HI8.out hk9)
                    have HR9 := Lib.hid (row_swapped HR8.out HI8.out hk9)
                    have HCE2 := Lib.hid (HCE.out.trans (Mk.cross_eq HMA.out HLA.out HLB.out))
                    clear HI8 HJ8 HR8 hg9 hk9 HI6a HJ6a HR6a hown1 hgrow1 hor1 HC7 z1 f1 q7 y1 x0 x1 x2 x3
                    go_wp2
                    go_roundw
                    case rel => exact ⟨q + 1, some ⟨ga, 0, none⟩, nx + 1, cap1, by omega, by go_num, Lib.hid (by rw [HCE2.out, if_pos (by omega)]; exact HI9.out), HJ9, HR9⟩
                    case measure => first | (simp [intOf]; done) | (simp [intOf]; omega)
                  · obtain ⟨w6, hw6⟩ : ∃ w6, w6 = w5 := ⟨_, rfl⟩
                    have hb6 : Below wo.heap.size wo w6 := by rw [hw6]; exact hb5
                    have K6 : Has w6 gx 83 [.int .i64 (k : Int), .int .i64 (t : Int), .int .i64 la, .int .i64 lb] := by rw [hw6]; exact K5
                    go_upto_region 26 with (fail)
                    rw [← hw6]
                    clear hw6
                    have HI6 := HI.out.below hb6
                    have HI6a := Lib.hid (HI6.below ((Below.refl _ w6).alloc (Nat.le_refl _) (.cells #[.int .i64 (k : Int), .int .i64 (t : Int), .int .i64 la, .int .i64 lb] 83)))
                    have HJ6a := Lib.hid ((HJ.out.below hb6).below ((Below.refl _ w6).alloc (Nat.le_refl _) (.cells #[.int .i64 (k : Int), .int .i64 (t : Int), .int .i64 la, .int .i64 lb] 83)))
                    have HR6a := Lib.hid (own_below (own_below HRN.out hb6) ((Below.refl _ w6).alloc (Nat.le_refl _) (.cells #[.int .i64 (k : Int), .int .i64 (t : Int), .int .i64 la, .int .i64 lb] 83)))
                    have y1 : w6.cell? ⟨gc, 1, none⟩ = some (.slice X nx cx) := HI6.c.cell 1
                    have qc := HI6.c.lt
                    have x0 : w6.cell? ⟨gx, 0, none⟩ = some (.int .i64 (k : Int)) := K6.cell 0
                    have x1 : w6.cell? ⟨gx, 1, none⟩ = some (.int .i64 (t : Int)) := K6.cell 1
                    have x2 : w6.cell? ⟨gx, 2, none⟩ = some (.int .i64 la) := K6.cell 2
                    have x3 : w6.cell? ⟨gx, 3, none⟩ = some (.int .i64 lb) := K6.cell 3
                    have qx := K6.lt
                    have hbs : gl + 1 ≤ w6.heap.size := HI6.sz
                    clear HI6 K6 hb6
                    go_wp2_with (first | (at_builtin; refine wpList_app rfl (.tmp 102) (.tmp 104) _ rfl (gl + 1) 83 (.agg #[.int .i64 0, .int .i64 0, .int .i64 0, .int .i64 0]) 4 32 Try.underlying46 infoCr rfl (by omega) (by omega) _ _ _ rfl HI6a.out.ox w6.heap.size [.int .i64 (k : Int), .int .i64 (t : Int), .int .i64 la, .int .i64 lb] rfl rfl (news4 _ _ _ _ _ _) (one4 _ _ _ _) (by have := HNX.out; omega) (by simp; omega) ?_; intro ga cap1 w7 hg1 hown1 hgrow1 hor1; have HC7 : Has w7 gc _ _ := HI6a.out.c.same (hgrow1.block gc HI6a.out.c.lt (fun e => (HI6a.out.c.ne_own HI6a.out.ox (by decide)) e.symm)); have z1 : w7.cell? ⟨gc, 1, none⟩ = some (.slice X nx cx) := HC7.cell 1; have f1 := HC7.free 1; have q7 := HC7.lt) | fail)
                    have HI8 := Lib.hid (HI6a.out.crossed ⟨(k : Int), (t : Int), la, lb⟩ hown1 hgrow1)
                    have HJ8 := Lib.hid (HJ6a.out.crossed HI6a.out hgrow1 (.slice (some ⟨ga, 0, none⟩) (nx + 1) cap1))
                    have HR8 := Lib.hid (row_crossed HR6a.out HI6a.out hgrow1 (.slice (some ⟨ga, 0, none⟩) (nx + 1) cap1))
                    refine (swap65 gl t _ la lb _ HI8.out.g ht48 (by rw [List.getElem?_map, HLA.out]; rfl) (by rw [List.getElem?_map, HLB.out]; rfl)).mono ?_
                    rintro e w9 ⟨⟨v, rfl⟩, hg9, hk9, _⟩
                    have HI9 := Lib.hid (HI8.out.swapped (((((Mk.works ws k).letters (k : Int) mid x.word.data.toList j).crosses (k : Int) mid ns q).l.set t lb).set (t + 1) la) (by rw [List.map_set, List.map_set]; exact hg9) hk9)
                    have HJ9 := Lib.hid (HJ8.out.swapped HI8.out hk9)
                    have HR9 := Lib.hid (row_swapped HR8.out HI8.out hk9)
                    have HCE2 := Lib.hid (HCE.out.trans (Mk.cross_eq HMA.out HLA.out HLB.out))
                    clear HI8 HJ8 HR8 hg9 hk9 HI6a HJ6a HR6a hown1 hgrow1 hor1 HC7 z1 f1 q7 y1 x0 x1 x2 x3
                    go_wp2
                    go_roundw
                    case rel => exact ⟨q + 1, some ⟨ga, 0, none⟩, nx + 1, cap1, by omega, by go_num, Lib.hid (by rw [HCE2.out, if_neg (by omega)]; exact HI9.out), HJ9, HR9⟩
                    case measure => first | (simp [intOf]; done) | (simp [intOf]; omega)
                · obtain rfl : q = nn := by omega
                  go_wp2
                  go_roundw
                  case rel => exact ⟨j + 1, X, nx, cx, P, np, cp, by omega, by go_num, Lib.hid (by rw [HLE2.out, HLN.out]; exact HI.out), HJ⟩
                  case measure => first | (simp [intOf]; done) | (simp [intOf]; omega)
          · obtain rfl : j = x.word.size := by omega
            have k2 : wo.cell? ⟨gw, 2, none⟩ = some (.string x.word) := HJ.out.w.cell 2
            have q6 := HJ.out.w.lt
            go_wp2
            go_roundw
            case rel => exact ⟨k + 1, X, nx, cx, P, np, cp, by omega, by go_num, Lib.hid (by rw [HWK.out]; exact HI.out)⟩
            case measure => first | (simp [intOf]; done) | (simp [intOf]; omega)
    · obtain rfl : n = k := by omega
      have M2 := KK2.out.below HI.out.b hwc
      have y0 : wo.cell? ⟨gc, 0, none⟩ = some (.int .i64 (2 * p)) := HI.out.c.cell 0
      have y1 : wo.cell? ⟨gc, 1, none⟩ = some (.slice X nx cx) := HI.out.c.cell 1
      have y2 : wo.cell? ⟨gc, 2, none⟩ = some (.slice P np cp) := HI.out.c.cell 2
      have z0 : wo.cell? ⟨w.heap.size + 1, 0, none⟩ = some (.int .i64 0) := M2.cell 0
      have z1 : wo.cell? ⟨w.heap.size + 1, 1, none⟩ = some (.slice none 0 0) := M2.cell 1
      have z2 : wo.cell? ⟨w.heap.size + 1, 2, none⟩ = some (.slice none 0 0) := M2.cell 2
      have f0 := M2.free 0
      have f1 := M2.free 1
      have f2 := M2.free 2
      have qa := M2.lt
      have qb := HI.out.c.lt
      go_wp2
      have M3 := ((M2.set 0 (.int .i64 (2 * p))).set 1 (.slice X nx cx)).set 2 (.slice P np cp)
      have hB := ((But.set (w.heap.size + 1) wo 0 (.int .i64 (2 * p))).trans (But.set (w.heap.size + 1) _ 1 (.slice X nx cx))).trans (But.set (w.heap.size + 1) _ 2 (.slice P np cp))
      have hox := hB.own HI.out.ox (M2.ne_own HI.out.ox (by decide))
      have hop := hB.own HI.out.op (M2.ne_own HI.out.op (by decide))
      have hcx := own_caps hox
      have hcp := own_caps hop
      refine post_cell_tmp M3 rfl rfl rfl rfl Try.underlying49 (by kernel_rfl) ⟨X, nx, cx, P, np, cp, rfl, own_rdQ hox, own_rdQ hop, HI.out.nxs, HI.out.nps, hcx.1, hcx.2, hcp.1, hcp.2, ?_⟩
      exact (B1.trans (HI.out.b.mono (by omega))).trans (hB.below (by omega) (by omega))
end Go.Proofs.Ytdimfbmbomgiaaa
/-
  Contracts of chapter 24: asked of both, ends, sewn, common, gcd.
-/
namespace Go.Proofs.Ytdimfbmbomgiaaa
open Go.RowKit
set_option maxRecDepth 100000 in
set_option maxHeartbeats 1000000 in
theorem asked31 (p : Int) (A : Option Addr) (n c : Nat) (h : Int) (ws : List Wk) (w : World) (hn : n ≤ 9223372036854775807) (hw : RdW w w.heap.size A ws) (hl : ws.length = n)
    (hs : ∀ x ∈ ws, x.word.size ≤ 9223372036854775807) :
    Calls Try.prog 31 #[.agg #[.int .i64 p, .slice A n c], .int .i64 h] w fun e w' => e = .returned (.int .i64 (seE p ws h)) ∧ Below w.heap.size w w' := by
  have C := Lib.hid (fun (W : World) (hb : Below w.heap.size w W) => shCheck p A n c ws W hn (hw.up hb) hl hs)
  have K0 : Has (w.alloc (.cells #[.int .i64 p, .slice A n c] 24)) w.heap.size 24 [.int .i64 p, .slice A n c] := Has.new rfl
  clear hw hl hs
  by_cases hE : schk p ws = 0
  case neg =>
    have e : seE p ws h = schk p ws := by unfold seE; rw [if_pos hE]
    rw [e]
    have hd : (schk p ws != 0) = true := by simpa using hE
    generalize schk p ws = q at *
    clear hE e
    go_enter Try.func31, Try.ntmps31
    go_wp2_with fail
    refine (C.out _ (by go_grown)).mono ?_
    rintro e w1 ⟨rfl, hb1⟩
    go_wp2
    go_ret
    exact ⟨rfl, bvia (by go_grown) hb1⟩
  rw [hE] at C
  have e : seE p ws h = if h < 0 ∨ p ≤ h then 2 else 0 := by unfold seE; rw [if_neg (by simpa using hE)]
  rw [e]
  clear hE e
  by_cases h1 : h < 0
  · rw [if_pos (.inl h1)]
    have d1 : decide (h < 0) = true := decide_eq_true h1
    go_enter Try.func31, Try.ntmps31
    go_wp2_with fail
    refine (C.out _ (by go_grown)).mono ?_
    rintro e w1 ⟨rfl, hb1⟩
    go_wp2
    go_ret
    exact ⟨rfl, bvia (by go_grown) hb1⟩
  · have d1 : decide (h < 0) = false := decide_eq_false h1
    by_cases h2 : p ≤ h
    · rw [if_pos (.inr h2)]
      have d2 : decide (p ≤ h) = true := decide_eq_true h2
      go_enter Try.func31, Try.ntmps31
      go_wp2_with fail
      refine (C.out _ (by go_grown)).mono ?_
      rintro e w1 ⟨rfl, hb1⟩
      have k0 : w1.cell? ⟨w.heap.size, 0, none⟩ = some (.int .i64 p) := (K0.below hb1 K0.lt).cell 0
      have q := (K0.below hb1 K0.lt).lt
      go_wp2
      go_ret
      exact ⟨rfl, bvia (by go_grown) hb1⟩
    · rw [if_neg (by omega)]
      have d2 : decide (p ≤ h) = false := decide_eq_false h2
      go_enter Try.func31, Try.ntmps31
      go_wp2_with fail
      refine (C.out _ (by go_grown)).mono ?_
      rintro e w1 ⟨rfl, hb1⟩
      have k0 : w1.cell? ⟨w.heap.size, 0, none⟩ = some (.int .i64 p) := (K0.below hb1 K0.lt).cell 0
      have q := (K0.below hb1 K0.lt).lt
      go_wp2
      go_ret
      exact ⟨rfl, bvia (by go_grown) hb1⟩
set_option maxRecDepth 100000 in
set_option maxHeartbeats 1000000 in
theorem asked32 (p : Int) (A : Option Addr) (n c : Nat) (h : Int) (ws : List Wk) (w : World) (hn : n ≤ 9223372036854775807) (hw : RdW w w.heap.size A ws) (hl : ws.length = n)
    (hs : ∀ x ∈ ws, x.word.size ≤ 9223372036854775807) :
    Calls Try.prog 32 #[.agg #[.int .i64 p, .slice A n c], .int .i64 h] w fun e w' => e = .returned (.int .i64 (seE p ws h)) ∧ Below w.heap.size w w' := by
  have C := Lib.hid (fun (W : World) (hb : Below w.heap.size w W) => check04 p A n c ws W hn (hw.up hb) hl hs)
  have K0 : Has (w.alloc (.cells #[.int .i64 p, .slice A n c] 24)) w.heap.size 24 [.int .i64 p, .slice A n c] := Has.new rfl
  clear hw hl hs
  by_cases hE : schk p ws = 0
  case neg =>
    have e : seE p ws h = schk p ws := by unfold seE; rw [if_pos hE]
    rw [e]
    have hd : (schk p ws == 0) = false := by simpa using hE
    generalize schk p ws = q at *
    clear hE e
    go_enter Try.func32, Try.ntmps32
    go_wp2_with fail
    refine (C.out _ (by go_grown)).mono ?_
    rintro e w1 ⟨rfl, hb1⟩
    go_wp2
    go_ret
    exact ⟨rfl, bvia (by go_grown) hb1⟩
  rw [hE] at C
  have e : seE p ws h = if h < 0 ∨ p ≤ h then 2 else 0 := by unfold seE; rw [if_neg (by simpa using hE)]
  rw [e]
  clear hE e
  by_cases h1 : h < 0
  · rw [if_pos (.inl h1)]
    have d1 : decide (h < 0) = true := decide_eq_true h1
    go_enter Try.func32, Try.ntmps32
    go_wp2_with fail
    refine (C.out _ (by go_grown)).mono ?_
    rintro e w1 ⟨rfl, hb1⟩
    go_wp2
    go_ret
    exact ⟨rfl, bvia (by go_grown) hb1⟩
  · have d1 : decide (h < 0) = false := decide_eq_false h1
    by_cases h2 : p ≤ h
    · rw [if_pos (.inr h2)]
      have d2 : decide (p ≤ h) = true := decide_eq_true h2
      go_enter Try.func32, Try.ntmps32
      go_wp2_with fail
      refine (C.out _ (by go_grown)).mono ?_
      rintro e w1 ⟨rfl, hb1⟩
      have k0 : w1.cell? ⟨w.heap.size, 0, none⟩ = some (.int .i64 p) := (K0.below hb1 K0.lt).cell 0
      have q := (K0.below hb1 K0.lt).lt
      go_wp2
      go_ret
      exact ⟨rfl, bvia (by go_grown) hb1⟩
    · rw [if_neg (by omega)]
      have d2 : decide (p ≤ h) = false := decide_eq_false h2
      go_enter Try.func32, Try.ntmps32
      go_wp2_with fail
      refine (C.out _ (by go_grown)).mono ?_
      rintro e w1 ⟨rfl, hb1⟩
      have k0 : w1.cell? ⟨w.heap.size, 0, none⟩ = some (.int .i64 p) := (K0.below hb1 K0.lt).cell 0
      have q := (K0.below hb1 K0.lt).lt
      go_wp2
      go_ret
      exact ⟨rfl, bvia (by go_grown) hb1⟩
set_option maxRecDepth 100000 in
set_option maxHeartbeats 1000000 in
theorem ends35 (p : Int) (A : Option Addr) (n c : Nat) (ws : List Wk) (w : World) (hn : n ≤ 9223372036854775807) (hw : RdW w w.heap.size A ws) (hl : ws.length = n) (hE : schk p ws = 0) :
    Calls Try.prog 35 #[.agg #[.int .i64 p, .slice A n c]] w (RetI (endL ws (2 * p).toNat) w) := by
  have HOK := Lib.hid (schk_zero hE)
  have CM := Lib.hid (fun (W : World) (hb : Below w.heap.size w W) => make11 p A n c ws W hn (hw.up hb) hl hE)
  have HV := Lib.hid (Mk.valid HOK.out n (by rw [hl]; exact Nat.le_refl _))
  have HEN : Hid (endsR (2 * p) (Mk.works ws n).xs (Mk.works ws n).ps = endL ws (2 * p).toNat) := by
    show _ = _
    rw [Mk.endsR HOK.out n (by rw [hl]; exact Nat.le_refl _), ← hl, works_endL HOK.out]
  have hp0 : -9223372036854775808 ≤ 2 * p := by have := HOK.out.ge; omega
  clear hw hl hE
  go_enter Try.func35, Try.ntmps35
  go_wp2_with fail
  refine (CM.out _ (by go_grown)).mono ?_
  rintro e w3 ⟨A3, n3, c3, D3, m3, d3, rfl, x3, p3, ln3, lm3, hc3, hc3', hd3, hd3', hb3⟩
  have B3 := Lib.hid (bvia (show Below w.heap.size w _ by go_grown) hb3)
  obtain ⟨t, ht⟩ : ∃ t, t = 2 * p := ⟨_, rfl⟩
  rw [← ht] at HV HEN hp0 ⊢
  have HX3 := Lib.hid x3
  have HP3 := Lib.hid p3
  have CE := Lib.hid (fun (W : World) (hb : Below w3.heap.size w3 W) => ends18 t A3 D3 n3 c3 m3 d3 _ _ W (Nat.le_trans hc3 hc3') (Nat.le_trans hd3 hd3') (HX3.out.up hb) (HP3.out.up hb) ln3 lm3 hp0)
  rw [HEN.out, HV.out] at CE
  have HTT := Lib.hid ht
  clear x3 p3 ln3 lm3 hb3 CM HX3 HP3 ht
  go_wp2_with fail
  refine (CE.out _ (by go_grown)).mono ?_
  rintro e w4 ⟨A4, n4, c4, rfl, hr4, hl4, hn4, hc4, hb4⟩
  have B4 := bvia B3.out (bvia (show Below w3.heap.size w3 _ by go_grown) hb4)
  go_wp2
  go_ret
  have e := HTT.out
  subst e
  exact ⟨A4, n4, c4, rfl, hr4, hl4, hn4, hc4, B4⟩
set_option maxRecDepth 100000 in
set_option maxHeartbeats 2000000 in
theorem sewn34 (p : Int) (A A' : Option Addr) (n c c' h : Nat) (ws : List Wk) (w : World) (hr : RdI w w.heap.size A' (endL ws (2 * p).toNat)) (hE : schk p ws = 0) (hh : (h : Int) < p) :
    Calls Try.prog 34 #[.agg #[.int .i64 p, .slice A n c], .slice A' (2 * p).toNat c', .int .i64 (h : Int)] w fun e w' => ∃ g, e = .returned (.pointer (some ⟨g, 0, none⟩)) ∧ w.heap.size ≤ g ∧ Has w' g 96 ((nxL ws (2 * p).toNat h 48).map vInt ++ [vInt (((2 * p).toNat : Nat) : Int)]) ∧ Below w.heap.size w w' := by
  have HOK := Lib.hid (schk_zero hE)
  have HR := Lib.hid hr
  have HALL := Lib.hid (jlS_all HOK.out h 48)
  have HLT : Hid (∀ j, j < (2 * p).toNat → plS ws j < (2 * p).toNat) := fun j hj => plS_lt HOK.out hj
  have hT : (2 * p).toNat ≤ 48 ∧ 4 ≤ (2 * p).toNat ∧ 2 * h < (2 * p).toNat := by have := HOK.out.le; have := HOK.out.ge; omega
  generalize (2 * p).toNat = T at *
  clear hr hE hh HOK
  obtain ⟨t48, t4, th⟩ := hT
  go_enter Try.func34, Try.ntmps34
  go_wp2
  obtain ⟨g, hg⟩ : ∃ g, g = w.heap.size + 1 := ⟨_, rfl⟩
  have HG := Lib.hid hg
  go_loopw [16] (fun v wr => ∃ j : Nat, j ≤ T ∧ v = .int .i64 (j : Int) ∧ Hid (Has wr (w.heap.size + 1) 96 ((jlS ws T h 48 j).map vInt ++ [vInt (T : Int)])) ∧ Hid (Below w.heap.size w wr)) (fun v _ => T - (intOf v).toNat)
  case atStart =>
    refine ⟨0, Nat.zero_le _, rfl, ?_, ?_⟩
    · rw [jlS_zero]
      have h1 := Has.new (w := w.alloc (.cells #[.int .i64 p, .slice A n c] 24)) (arr := ((List.replicate 48 (0 : Int)).map vInt ++ [vInt (T : Int)]).toArray) (t := 96) rfl
      rw [World.size_alloc] at h1
      exact h1
    · show Below _ _ _
      go_grown
  case round =>
    obtain ⟨j, hj, rfl, HS, HB⟩ := hrel
    obtain ⟨wo, rfl⟩ : ∃ wo : World, wo = wr := ⟨_, rfl⟩
    by_cases hlt : j < T
    · have jk : (j : Int) < (T : Int) := by omega
      obtain ⟨ba, o, hA, hba, c0⟩ := (HR.out.up HB.out) j _ (endL_get ws hlt)
      subst hA
      have hpl := HLT.out j hlt
      have HP := Lib.hid hpl
      have HNX := Lib.hid (jlS_set ws (h := h) (N := 48) (j := j) hpl)
      generalize plS ws j = q at *
      have i1 : IntKind.i64.wrap (2 * (h : Int)) = 2 * (h : Int) := IntWalk.i64_in _ (by omega)
      have i2 : IntKind.i64.wrap ((j : Int) + 2 * (h : Int)) = ((j + 2 * h : Nat) : Int) := by rw [IntWalk.i64_in _ (by omega)]; omega
      have i3 : ((j + 2 * h : Nat) : Int) % (T : Int) = ((((j + 2 * h) % T : Nat)) : Int) := by rw [Int.natCast_emod]
      have i4 : (T : Int) ≠ 0 := by omega
      have i5 : (0 : Int) ≤ ((j + 2 * h : Nat) : Int) := by omega
      have i8 : ¬ T = 0 := by omega
      have i9 : (0 : Int) ≤ (j : Int) + 2 * (h : Int) := by omega
      have i6 : (q : Int) < 48 := by omega
      have i7 : q < 48 := by omega
      have f0 := HS.out.free q
      have qs := HS.out.lt
      have v0 : wo.cell? ⟨w.heap.size + 1, q, none⟩ = some (vInt ((jlS ws T h 48 j).getD q 0)) := by
        rw [HS.out.cell, List.getElem?_append_left (by rw [List.length_map, jlS_len]; exact i7), List.getElem?_map, List.getD_eq_getElem?_getD]
        obtain ⟨x, hx⟩ := get_of_lt (l := jlS ws T h 48 j) (k := q) (by rw [jlS_len]; exact i7)
        rw [hx]; rfl
      clear hpl
      go_wp2
      go_region_held3 (fun _ => True) (trivial) (fail)
      go_wp2
      go_roundw
      case rel =>
        have e : ((j : Int) + 2 * (h : Int)) % (T : Int) = (((j + 2 * h) % T : Nat) : Int) := by rw [Int.natCast_emod]; congr 1
        rw [e]
        have h1 := HS.out.set q (vInt (((j + 2 * h) % T : Nat) : Int))
        rw [List.set_append_left _ _ (by rw [List.length_map, jlS_len]; exact i7), ← List.map_set, HNX.out] at h1
        exact ⟨j + 1, by omega, by go_num, h1.drew, (HB.out.setCell (by simp) _).drew⟩
      case measure => first | (simp [intOf]; done) | (simp [intOf]; omega)
    · obtain rfl : j = T := by omega
      go_wp2
      go_ret
      refine ⟨w.heap.size + 1, rfl, by omega, ?_, HB.out⟩
      rw [← HALL.out]; exact HS.out
theorem gcd_step (x y : Nat) : Nat.gcd y (x % y) = Nat.gcd x y := by rw [Nat.gcd_comm y, ← Nat.gcd_rec, Nat.gcd_comm]
set_option maxRecDepth 100000 in
set_option maxHeartbeats 1000000 in
theorem common40 (a b : Nat) (w : World) (ha : 0 < a) (hab : a ≤ 4611686018427387904) (hb : b ≤ 4611686018427387904) (hl : Nat.lcm a b ≤ 4611686018427387904) :
    Calls Try.prog 40 #[.int .i64 (a : Int), .int .i64 (b : Int)] w fun e w' => e = .returned (.int .i64 ((Nat.lcm a b : Nat) : Int)) ∧ Below w.heap.size w w' := by
  go_enter Try.func40, Try.ntmps40
  go_wp2
  go_loopw [5, 6] (fun u v wr => ∃ x y : Nat, u = .int .i64 (x : Int) ∧ v = .int .i64 (y : Int) ∧ x ≤ 4611686018427387904 ∧ y ≤ 4611686018427387904 ∧ Hid (Nat.gcd x y = Nat.gcd a b) ∧ Hid (Below w.heap.size w wr)) (fun _ v _ => (intOf v).toNat)
  case atStart => exact ⟨a, b, rfl, rfl, hab, hb, rfl, Below.refl _ _⟩
  case round =>
    obtain ⟨x, y, rfl, rfl, hx, hy, HG, HB⟩ := hrel
    obtain ⟨wo, rfl⟩ : ∃ wo : World, wo = wr := ⟨_, rfl⟩
    by_cases h0 : y = 0
    · subst h0
      have hg : x = Nat.gcd a b := by have := HG.out; rwa [Nat.gcd_zero_right] at this
      have hx0 : 0 < x := by rw [hg]; exact Nat.gcd_pos_of_pos_left _ ha
      have hd : Nat.lcm a b = a / x * b := by
        rw [hg]
        show a * b / Nat.gcd a b = _
        rw [Nat.div_mul_right_comm (Nat.gcd_dvd_left a b)]
      rw [hd] at hl
      have HD := Lib.hid hd
      have e1 : ((a : Int) / (x : Int)) = ((a / x : Nat) : Int) := by rw [Int.natCast_ediv]
      have e2 : ((a / x : Nat) : Int) * (b : Int) = ((a / x * b : Nat) : Int) := (Int.natCast_mul _ _).symm
      have i0 : ¬ x = 0 := by omega
      have i2 : IntKind.i64.wrap ((a : Int) / (x : Int) * (b : Int)) = ((a / x * b : Nat) : Int) := by rw [e1, e2]; exact IntWalk.i64_in _ (by omega)
      have hle : a / x ≤ a := Nat.div_le_self _ _
      have hle2 : (0 : Int) ≤ ((a / x : Nat) : Int) ∧ ((a / x : Nat) : Int) ≤ 4611686018427387904 := ⟨Int.natCast_nonneg _, Int.ofNat_le.2 (Nat.le_trans hle hab)⟩
      have i1 : IntKind.i64.wrap ((a : Int) / (x : Int)) = (a : Int) / (x : Int) := by rw [e1]; exact IntWalk.i64_in _ ⟨Int.le_trans (by decide) hle2.1, Int.le_trans hle2.2 (by decide)⟩
      have HI2 := Lib.hid i2
      have HE : Hid ((a : Int) / (x : Int) * (b : Int) = ((a / x * b : Nat) : Int)) := by rw [e1, e2]; rfl
      clear hg hd e2 hl e1 hle2
      go_wp2
      go_ret
      refine ⟨?_, HB.out⟩
      rw [HD.out, ← HE.out]; rfl
    · have i0 : ¬ y = 0 := h0
      have i1 : (0 : Int) ≤ (x : Int) := by omega
      have hm : x % y < y := Nat.mod_lt _ (by omega)
      have HGS := Lib.hid (gcd_step x y)
      go_wp2
      go_region_held3 (fun _ => True) (trivial) (fail)
      go_wp2
      go_roundw
      case rel => exact ⟨y, x % y, rfl, rfl, hy, by omega, HGS.out.trans HG.out, HB.out.drew⟩
      case measure => show (((x % y : Nat) : Int)).toNat < ((y : Int)).toNat; omega
set_option maxRecDepth 100000 in
theorem gcd28 (a b : Nat) (w : World) (hab : a ≤ 4611686018427387904) (hb : b ≤ 4611686018427387904) :
    Calls Try.prog 28 #[.int .i64 (a : Int), .int .i64 (b : Int)] w fun e w' => e = .returned (.int .i64 ((Nat.gcd a b : Nat) : Int)) ∧ Below w.heap.size w w' := by
  go_enter Try.func28, Try.ntmps28
  go_wp2
  go_loopw [0, 1] (fun u v wr => ∃ x y : Nat, u = .int .i64 (x : Int) ∧ v = .int .i64 (y : Int) ∧ x ≤ 4611686018427387904 ∧ y ≤ 4611686018427387904 ∧ Hid (Nat.gcd x y = Nat.gcd a b) ∧ Hid (Below w.heap.size w wr)) (fun _ v _ => (intOf v).toNat)
  case atStart => exact ⟨a, b, rfl, rfl, hab, hb, rfl, Below.refl _ _⟩
  case round =>
    obtain ⟨x, y, rfl, rfl, hx, hy, HG, HB⟩ := hrel
    obtain ⟨wo, rfl⟩ : ∃ wo : World, wo = wr := ⟨_, rfl⟩
    by_cases h0 : y = 0
    · subst h0
      have hg : x = Nat.gcd a b := by have := HG.out; rwa [Nat.gcd_zero_right] at this
      have HX := Lib.hid hg
      clear hg
      go_wp2
      go_ret
      exact ⟨by rw [HX.out]; rfl, HB.out⟩
    · have i0 : ¬ y = 0 := h0
      have i1 : (0 : Int) ≤ (x : Int) := by omega
      have hm : x % y < y := Nat.mod_lt _ (by omega)
      have HGS := Lib.hid (gcd_step x y)
      go_wp2
      go_region_held3 (fun _ => True) (trivial) (fail)
      go_wp2
      go_roundw
      case rel => exact ⟨y, x % y, rfl, rfl, hy, by omega, HGS.out.trans HG.out, HB.out.drew⟩
      case measure => show (((x % y : Nat) : Int)).toNat < ((y : Int)).toNat; omega
end Go.Proofs.Ytdimfbmbomgiaaa
