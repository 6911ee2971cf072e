/-
  Contract of torchonref17.Make at a valid sheet: the same cloth.
-/
import Derived.Test.YtdimfbmbomgiaaaVG10
import Derived.Test.YtdimfbmbomgiaaaVG11
import Derived.Test.YtdimfbmbomgiaaaVG14
import Derived.Deep.Cut
import Derived.Deep.CutRange
namespace Go.Proofs.Ytdimfbmbomgiaaa
open Go.RowKit
set_option maxRecDepth 100000 in
set_option maxHeartbeats 8000000 in
theorem make12 (p : Int) (A : Option Addr) (n c : Nat) (ws : List Wk) (w : World) (hn : n ≤ 9223372036854775807) (hw : RdW w w.heap.size A ws) (hl : ws.length = n) (hE : schk p ws = 0) :
    Calls Try.prog 24 #[.agg #[.int .i64 p, .slice A n c]] w (RetCE (2 * p) (Mk.works ws n).xs (Mk.works ws n).ps 0 w) := by
  have HOK := Lib.hid (schk_zero hE)
  have hp2 := HOK.out.ge
  have hp24 := HOK.out.le
  have hn4 : n ≤ 400 := by rw [← hl]; exact HOK.out.len
  have HSZ := Lib.hid (fun k => Mk.works_xs HOK.out.short k)
  have C1 := Lib.hid (fun (W : World) (hb : Below w.heap.size w W) => check04 p A n c ws W hn (hw.up hb) hl (fun x hx => Nat.le_trans (HOK.out.short x hx) (by omega)))
  rw [hE] at C1
  have HW := Lib.hid hw
  have HL := Lib.hid hl
  clear hw hl hE
  obtain ⟨m, hm⟩ := Int.eq_ofNat_of_zero_le (show 0 ≤ 2 * p by omega)
  have hm48 : m ≤ 48 := by omega
  have hm4 : 4 ≤ m := by omega
  have i0 : IntKind.i64.wrap (2 * p) = (m : Int) := by rw [hm]; exact IntWalk.i64_in _ (by omega)
  rw [hm]
  have HMP := Lib.hid hm
  clear hm
  go_enter Try.func24, Try.ntmps24
  go_wp2_with fail
  refine (C1.out _ (by go_grown)).mono ?_
  rintro e w1 ⟨rfl, hb1⟩
  have K1 : Has w1 w.heap.size 24 [.int .i64 p, .slice A n c] := ((Has.new rfl).alloc _).below hb1 (by simp; omega)
  have K2 : Has w1 (w.heap.size + 1) 49 [.int .i64 0, .slice none 0 0, .slice none 0 0] := (Has.new2 rfl).below hb1 (by simp)
  have B1 : Below w.heap.size w w1 := bvia (show Below w.heap.size w _ by go_grown) hb1
  have a0 : w1.cell? ⟨w.heap.size, 0, none⟩ = some (.int .i64 p) := K1.cell 0
  have q := K1.lt
  have qq := K2.lt
  go_wp2_with fail
  refine (line41 m _ hm48).mono ?_
  rintro e w2 ⟨A2, n2, cl, rfl, o2, l2, hb2⟩
  obtain rfl : m = n2 := by rw [← l2, lineL_len]
  obtain ⟨gl, rfl, hgl, hgl2, _⟩ := own_at o2 (j := 0) (u := vInt 0) (by rw [List.getElem?_map, lineL_at0 (by omega)]; rfl)
  have K3 : Has (w1.alloc (.cells #[.int .i64 (m : Int), .slice none 0 0, .slice none 0 0] 49)) w1.heap.size 49 [.int .i64 (m : Int), .slice none 0 0, .slice none 0 0] := Has.new rfl
  have L3 := K3.below hb2 K3.lt
  have B3 : Below w1.heap.size w1 w2 := bvia (show Below w1.heap.size w1 _ by go_grown) hb2
  obtain ⟨gc, hgc⟩ : ∃ gc, gc = w1.heap.size := ⟨_, rfl⟩
  have hwc : w.heap.size + 1 < gc := by rw [hgc]; exact K2.lt
  have HI0 : Hid (MkR w1 w2 gc gl cl m (m : Int) (Mk.works ws 0) none 0 0 none 0 0) := by
    refine ⟨?_, ?_, World.ownsRow_nil _ _ _ _, World.ownsRow_nil _ _ _ _, ?_, Nat.le_of_eq hgc, hgl2, rfl, rfl⟩
    · rw [hgc]; exact L3
    · show w2.ownsRow (gc + 1) 3 1 _ m (((lineL 48).take m).map vInt)
      rw [lineL_take m hm48]
      exact own_mono o2 (by rw [hgc]; simp)
    · rw [hgc]; exact B3
  have HWC := Lib.hid hgc
  have KK1 := Lib.hid K1
  have KK2 := Lib.hid K2
  rw [← hgc]
  clear o2 l2 hb2 K1 K2 K3 L3 B3 hgc a0 q qq hb1 hgl hgl2
  go_wp2
  go_loopw [7] (fun i wr => ∃ (k : Nat) (X : Option Addr) (nx cx : Nat) (P : Option Addr) (np cp : Nat), k ≤ n ∧ i = .int .i64 (k : Int) ∧ Hid (MkR w1 wr gc gl cl m (m : Int) (Mk.works ws k) X nx cx P np cp)) (fun i _ => n - (intOf i).toNat)
  case atStart => exact ⟨0, none, 0, 0, none, 0, 0, Nat.zero_le _, rfl, HI0⟩
  case round =>
    clear HI0
    obtain ⟨k, X, nx, cx, P, np, cp, hk, rfl, HI⟩ := hrel
    obtain ⟨wo, rfl⟩ : ∃ wo : World, wo = wr := ⟨_, rfl⟩
    have M1 := KK1.out.below HI.out.b (by omega)
    have s1 : wo.cell? ⟨w.heap.size, 1, none⟩ = some (.slice A n c) := M1.cell 1
    have qs := M1.lt
    clear M1
    by_cases hlt : k < n
    · obtain ⟨x, hx⟩ := get_of_lt (l := ws) (k := k) (by rw [HL.out]; exact hlt)
      obtain ⟨hkd, ha0, ha1, hk2⟩ := bad_at (HOK.out.good x (mem_of_get hx))
      have hsz := HOK.out.short x (mem_of_get hx)
      have hform := HOK.out.form x (mem_of_get hx)
      obtain ⟨hrf, hrs⟩ := refW_ok hform hsz
      obtain ⟨a, ha⟩ := Int.eq_ofNat_of_zero_le ha0
      obtain ⟨mid, hmid⟩ : ∃ mid, mid = 2 * a + 1 := ⟨_, rfl⟩
      have hmid2 : mid + 2 < m := by have := HMP.out; omega
      have hmid1 : 1 ≤ mid := by omega
      have HMA2 : Hid (mid = 2 * a + 1) := hmid
      have HMM : Hid (mkMid x = mid) := by show mkMid x = mid; unfold mkMid; rw [ha, hmid]; simp
      obtain ⟨ba, o, rfl, hba, c0, c1, c2⟩ := (HW.out.up (B1.trans (HI.out.b.mono (by omega)))) _ x hx
      have HXA : Hid (x.at_ = (a : Int)) := ha
      rw [ha] at c1
      have jn : (k : Int) < (n : Int) := by omega
      have HWK := Lib.hid ((Mk.works_succ hx).trans (refW_work hk2))
      rw [HMM.out] at HWK
      obtain ⟨rw_, hrw⟩ : ∃ r, r = refW x := ⟨_, rfl⟩
      have HRW : Hid (wOk rw_ = true) := by rw [hrw]; exact hrf
      have hr16 : rw_.size ≤ 16 := by rw [hrw]; exact hrs
      rw [← hrw] at HWK
      have HRX := Lib.hid hrw
      clear hx ha0 ha1 hmid ha hrf hrs hrw hk2 hform
      obtain ⟨w5, hw5⟩ : ∃ w5, w5 = wo.alloc (.cells #[.int .i64 x.kind, .int .i64 (a : Int), .string x.word] 63) := ⟨_, rfl⟩
      have hb5 : Below wo.heap.size wo w5 := by rw [hw5]; go_grown
      have N2 : Has w5 wo.heap.size 63 [.int .i64 x.kind, .int .i64 (a : Int), .string x.word] := by rw [hw5]; exact Has.new rfl
      go_upto_region 10 with (fail)
      rw [← hw5]
      obtain ⟨gw, hgw⟩ : ∃ gw, gw = wo.heap.size := ⟨_, rfl⟩
      have HI5 := Lib.hid (HI.out.below hb5)
      have hgw2 : gl + 1 ≤ gw := by rw [hgw]; exact HI.out.sz
      have HJ5 : Hid (Has w5 gw 63 (wkCells x)) := by
        show Has w5 gw _ _
        rw [hgw]; unfold wkCells; rw [HXA.out]; exact N2
      rw [← hgw]
      have k0 : w5.cell? ⟨gw, 0, none⟩ = some (.int .i64 x.kind) := HJ5.out.cell 0
      have k2 : w5.cell? ⟨gw, 2, none⟩ = some (.string x.word) := HJ5.out.cell 2
      have q5 := HJ5.out.lt
      clear hw5 hb5 N2 c0 c1 c2 hba HI hgw s1 qs
      go_upto_if 46 with (fail)
      go_cut [9] from 30 to 152 (fun s9 wx => s9 = .string rw_ ∧ wx = w5)
      case first =>
        by_cases hk : x.kind = 2
        · have hr : rw_ = ⟨#[80]⟩ := by rw [HRX.out]; unfold refW; rw [if_pos hk]
          have hd : (x.kind == 2) = true := by simpa using hk
          go_wp2
          go_meet
          case rel => exact ⟨by rw [hr], rfl⟩
        · have hr : rw_ = x.word := by rw [HRX.out]; unfold refW; rw [if_neg hk]
          have hd : (x.kind == 2) = false := by simpa using hk
          go_wp2
          go_meet
          case rel => exact ⟨by rw [hr], rfl⟩
      case rest =>
        obtain ⟨rfl, rfl⟩ := hcut
        clear k0
        go_wp2
        go_loopw [10] (fun i wr => ∃ (j : Nat) (X : Option Addr) (nx cx : Nat) (P : Option Addr) (np cp : Nat), j ≤ rw_.size ∧ i = .int .i64 (j : Int) ∧ Hid (MkR w1 wr gc gl cl m (m : Int) ((Mk.works ws k).letters (k : Int) mid rw_.data.toList j) X nx cx P np cp) ∧ Hid (Has wr gw 63 (wkCells x))) (fun i _ => rw_.size - (intOf i).toNat)
        case atStart => exact ⟨0, X, nx, cx, P, np, cp, Nat.zero_le _, rfl, HI5, HJ5⟩
        case round =>
          clear HI5 HJ5 k2 q5
          obtain ⟨j, X, nx, cx, P, np, cp, hj, rfl, HI, HJ⟩ := hrel
          obtain ⟨wo, rfl⟩ : ∃ wo : World, wo = wr := ⟨_, rfl⟩
          by_cases hlj : j < rw_.size
          · have hget : rw_.data.toList[j]? = some rw_[j] := by
              rw [Array.getElem?_toList]
              exact Array.getElem?_eq_getElem hlj
            have hlet : isLet rw_[j] = true := (List.all_eq_true.1 HRW.out) _ (mem_of_get hget)
            have jm : (j : Int) < (rw_.size : Int) := by omega
            have HNX : Hid (((Mk.works ws k).letters (k : Int) mid rw_.data.toList j).xs.length ≤ 19200 + 48 ∧ ((Mk.works ws k).letters (k : Int) mid rw_.data.toList j).ps.length ≤ 6800 + 16) := by
              obtain ⟨h3, h4⟩ := HSZ.out k
              have h5 := Mk.letters_xs (Mk.works ws k) (k : Int) mid rw_.data.toList j
              have h6 := Mk.letters_ps (Mk.works ws k) (k : Int) mid rw_.data.toList j
              exact ⟨by omega, by omega⟩
            have HLL := Lib.hid ((Mk.letters_len (Mk.works ws k) (k : Int) mid rw_.data.toList j).trans (Mk.works_len ws k))
            have HLE := Lib.hid ((Mk.letters_succ (s := Mk.works ws k) (i := (k : Int)) (mid := mid) hget).trans (Mk.letter_pinIf _ _ _ _))
            have k1 : wo.cell? ⟨gw, 1, none⟩ = some (.int .i64 (a : Int)) := by rw [← HXA.out]; exact HJ.out.cell 1
            have q6 := HJ.out.lt
            have i1 : IntKind.i64.wrap (2 * (a : Int)) = 2 * (a : Int) := IntWalk.i64_in _ (by have := HMA2.out; omega)
            have i2 : IntKind.i64.wrap (2 * (a : Int) + 1) = (mid : Int) := by have := HMA2.out; rw [IntWalk.i64_in _ (by omega)]; omega
            have SL := fun W => slice1 rw_ j hlj W
            have SE := Lib.hid (ext_ok hlj hlet)
            have SX := Lib.hid (ext_one rw_ j hlj)
            obtain ⟨s0, hs0⟩ : ∃ s0, s0 = (Mk.works ws k).letters (k : Int) mid rw_.data.toList j := ⟨_, rfl⟩
            rw [← hs0] at HI HLL HLE HNX
            obtain ⟨ch, hch⟩ : ∃ ch, ch = rw_[j] := ⟨_, rfl⟩
            rw [← hch] at HLE SX
            have HCH := Lib.hid hch
            clear hget hlet hs0 hch
            go_upto_if 60 with (fail)
            go_cut [] from 47 to 152 (fun wx => ∃ (P : Option Addr) (np cp : Nat), Hid (MkR w1 wx gc gl cl m (m : Int) (s0.pinIf (k : Int) mid ch) X nx cx P np cp) ∧ Hid (Has wx gw 63 (wkCells x)))
            case first =>
              by_cases hc : ch = 80
              · have hc2 : ((rw_[j].toNat : Int) == 80) = true := by rw [← HCH.out, hc]; rfl
                obtain ⟨la, hla⟩ := get_of_lt (l := s0.l) (k := mid) (by rw [HLL.out]; omega)
                obtain ⟨lb, hlb⟩ := get_of_lt (l := s0.l) (k := mid + 1) (by rw [HLL.out]; omega)
                have HLa : Hid ((s0.l.take m)[mid]? = some la) := by show _ = _; rw [List.getElem?_take, if_pos (by omega)]; exact hla
                have HLb : Hid ((s0.l.take m)[mid + 1]? = some lb) := by show _ = _; rw [List.getElem?_take, if_pos (by omega)]; exact hlb
                have HPE := Lib.hid (Mk.pin_eq (i := (k : Int)) hla hlb)
                clear hla hlb
                have y2 : wo.cell? ⟨gl, mid, none⟩ = some (.int .i64 la) := (HI.out.l.cellAt mid (by omega)).trans (by rw [List.getElem?_map, HLa.out]; rfl)
                have y3 : wo.cell? ⟨gl, mid + 1, none⟩ = some (.int .i64 lb) := (HI.out.l.cellAt (mid + 1) (by omega)).trans (by rw [List.getElem?_map, HLb.out]; rfl)
                have y4 : wo.cell? ⟨gc, 2, none⟩ = some (.slice P np cp) := HI.out.c.cell 2
                have j1 : IntKind.i64.wrap ((mid : Int) + 1) = (mid : Int) + 1 := IntWalk.i64_in _ (by omega)
                have j2 : ((mid : Int) + 1).toNat = mid + 1 := by omega
                have j3 : (0 : Int) ≤ (mid : Int) + 1 := by omega
                have j4 : (mid : Int) + 1 < (m : Int) := by omega
                have j5 : (mid : Int) < (m : Int) := by omega
                have j6 : mid < m := by omega
                go_upto_region 18 with (fail)
                refine wp_region_noPanic ?_
                refine wp_region_B (fun b w' => w'.cell? ⟨gl, mid, none⟩ = some (.int .i64 la) ∧ w'.cell? ⟨gl, mid + 1, none⟩ = some (.int .i64 lb) ∧ (b = false → w'.cell? ⟨gc, 2, none⟩ = some (.slice P np cp))) 17 (by kernel_rfl) ?_
                have hSSp : (fun b w' => w'.cell? ⟨gl, mid, none⟩ = some (.int .i64 la) ∧ w'.cell? ⟨gl, mid + 1, none⟩ = some (.int .i64 lb) ∧ (b = false → w'.cell? ⟨gc, 2, none⟩ = some (.slice P np cp))) false (wo.drew) := ⟨y2, y3, fun _ => y4⟩
                refine wpAnyB_take (i := 0) (oi := _) (v := ?vvp1) (fun w' => w'.cell? ⟨gl, mid, none⟩ = some (.int .i64 la) ∧ w'.cell? ⟨gl, mid + 1, none⟩ = some (.int .i64 lb)) rfl (by kernel_rfl) (by kernel_rfl) (by kernel_rfl) (by kernel_rfl) (by rfl) (fun _ h => ⟨h.1, h.2.1⟩) (.inl fun _ h => ⟨h.1, h.2.1⟩) (fun _ _ _ h => h) (.inl ⟨by rfl, ?hyp1⟩) hSSp ?_
                case hyp1 =>
                  intro w' hSw
                  try dsimp only at hSw
                  go_simp
                  all_goals with_reducible rfl
                try simp only [Act.put, List.setIfInBounds_toArray]
                refine wpAnyB_take (i := 1) (oi := _) (v := ?vvp2) (fun w' => w'.cell? ⟨gl, mid, none⟩ = some (.int .i64 la) ∧ w'.cell? ⟨gl, mid + 1, none⟩ = some (.int .i64 lb) ∧ w'.cell? ⟨gc, 2, none⟩ = some (.slice P np cp)) rfl (by kernel_rfl) (by kernel_rfl) (by kernel_rfl) (by kernel_rfl) (by rfl) (fun _ h => ⟨h.1, h.2.1, h.2.2 rfl⟩) (.inr (by kernel_rfl)) (fun _ _ _ h => h) (.inl ⟨by rfl, ?hyp2⟩) hSSp ?_
                case hyp2 =>
                  intro w' hSw
                  try dsimp only at hSw
                  go_simp
                  all_goals with_reducible rfl
                try simp only [Act.put]
                refine wpAnyB_take (i := 2) (oi := _) (v := ?vvp3) (fun w' => w'.cell? ⟨gl, mid, none⟩ = some (.int .i64 la) ∧ w'.cell? ⟨gl, mid + 1, none⟩ = some (.int .i64 lb)) rfl (by kernel_rfl) (by kernel_rfl) (by kernel_rfl) (by kernel_rfl) (by rfl) (fun _ h => ⟨h.1, h.2.1⟩) (.inl fun _ h => ⟨h.1, h.2.1⟩) (fun _ _ _ h => h) (.inl ⟨by rfl, ?hyp3⟩) hSSp ?_
                case hyp3 =>
                  intro w' hSw
                  try dsimp only at hSw
                  go_simp
                  all_goals with_reducible rfl
                try simp only [Act.put]
                refine wpAnyB_take (i := 3) (oi := _) (v := ?vvp4) (fun w' => w'.cell? ⟨gl, mid, none⟩ = some (.int .i64 la) ∧ w'.cell? ⟨gl, mid + 1, none⟩ = some (.int .i64 lb)) rfl (by kernel_rfl) (by kernel_rfl) (by kernel_rfl) (by kernel_rfl) (by rfl) (fun _ h => ⟨h.1, h.2.1⟩) (.inl fun _ h => ⟨h.1, h.2.1⟩) (fun _ _ _ h => h) (.inl ⟨by rfl, ?hyp4⟩) hSSp ?_
                case hyp4 =>
                  intro w' hSw
                  try dsimp only at hSw
                  go_simp
                  all_goals with_reducible rfl
                try simp only [Act.put]
                refine wpAnyB_take (i := 4) (oi := _) (v := ?vvp5) (fun w' => w'.cell? ⟨gl, mid, none⟩ = some (.int .i64 la) ∧ w'.cell? ⟨gl, mid + 1, none⟩ = some (.int .i64 lb)) rfl (by kernel_rfl) (by kernel_rfl) (by kernel_rfl) (by kernel_rfl) (by rfl) (fun _ h => ⟨h.1, h.2.1⟩) (.inl fun _ h => ⟨h.1, h.2.1⟩) (fun _ _ _ h => h) (.inl ⟨by rfl, ?hyp5⟩) hSSp ?_
                case hyp5 =>
                  intro w' hSw
                  try dsimp only at hSw
                  go_simp
                  all_goals with_reducible rfl
                try simp only [Act.put]
                refine wpAnyB_take (i := 5) (oi := _) (v := ?vvp6) (fun w' => w'.cell? ⟨gl, mid, none⟩ = some (.int .i64 la) ∧ w'.cell? ⟨gl, mid + 1, none⟩ = some (.int .i64 lb)) rfl (by kernel_rfl) (by kernel_rfl) (by kernel_rfl) (by kernel_rfl) (by rfl) (fun _ h => ⟨h.1, h.2.1⟩) (.inl fun _ h => ⟨h.1, h.2.1⟩) (fun _ _ _ h => h) (.inl ⟨by rfl, ?hyp6⟩) hSSp ?_
                case hyp6 =>
                  intro w' hSw
                  try dsimp only at hSw
                  go_simp
                  all_goals with_reducible rfl
                try simp only [Act.put]
                refine wpAnyB_take (i := 6) (oi := _) (v := ?vvp7) (fun w' => w'.cell? ⟨gl, mid, none⟩ = some (.int .i64 la) ∧ w'.cell? ⟨gl, mid + 1, none⟩ = some (.int .i64 lb)) rfl (by kernel_rfl) (by kernel_rfl) (by kernel_rfl) (by kernel_rfl) (by rfl) (fun _ h => ⟨h.1, h.2.1⟩) (.inl fun _ h => ⟨h.1, h.2.1⟩) (fun _ _ _ h => h) (.inl ⟨by rfl, ?hyp7⟩) hSSp ?_
                case hyp7 =>
                  intro w' hSw
                  try dsimp only at hSw
                  go_simp
                  all_goals with_reducible rfl
                try simp only [Act.put]
                refine wpAnyB_take (i := 7) (oi := _) (v := ?vvp8) (fun w' => w'.cell? ⟨gl, mid, none⟩ = some (.int .i64 la) ∧ w'.cell? ⟨gl, mid + 1, none⟩ = some (.int .i64 lb)) rfl (by kernel_rfl) (by kernel_rfl) (by kernel_rfl) (by kernel_rfl) (by rfl) (fun _ h => ⟨h.1, h.2.1⟩) (.inl fun _ h => ⟨h.1, h.2.1⟩) (fun _ _ _ h => h) (.inl ⟨by rfl, ?hyp8⟩) hSSp ?_
                case hyp8 =>
                  intro w' hSw
                  try dsimp only at hSw
                  go_simp
                  all_goals with_reducible rfl
                try simp only [Act.put]
                refine wpAnyB_take (i := 8) (oi := _) (v := ?vvp9) (fun w' => w'.cell? ⟨gl, mid, none⟩ = some (.int .i64 la) ∧ w'.cell? ⟨gl, mid + 1, none⟩ = some (.int .i64 lb)) rfl (by kernel_rfl) (by kernel_rfl) (by kernel_rfl) (by kernel_rfl) (by rfl) (fun _ h => ⟨h.1, h.2.1⟩) (.inl fun _ h => ⟨h.1, h.2.1⟩) (fun _ _ _ h => h) (.inl ⟨by rfl, ?hyp9⟩) hSSp ?_
                case hyp9 =>
                  intro w' hSw
                  try dsimp only at hSw
                  go_simp
                  all_goals with_reducible rfl
                try simp only [Act.put]
                refine wpAnyB_take (i := 9) (oi := _) (v := ?vvp10) (fun w' => w'.cell? ⟨gl, mid, none⟩ = some (.int .i64 la) ∧ w'.cell? ⟨gl, mid + 1, none⟩ = some (.int .i64 lb)) rfl (by kernel_rfl) (by kernel_rfl) (by kernel_rfl) (by kernel_rfl) (by rfl) (fun _ h => ⟨h.1, h.2.1⟩) (.inl fun _ h => ⟨h.1, h.2.1⟩) (fun _ _ _ h => h) (.inl ⟨by rfl, ?hyp10⟩) hSSp ?_
                case hyp10 =>
                  intro w' hSw
                  try dsimp only at hSw
                  go_simp
                  all_goals with_reducible rfl
                try simp only [Act.put]
                refine wpAnyB_take (i := 10) (oi := _) (v := ?vvp11) (fun w' => w'.cell? ⟨gl, mid, none⟩ = some (.int .i64 la) ∧ w'.cell? ⟨gl, mid + 1, none⟩ = some (.int .i64 lb)) rfl (by kernel_rfl) (by kernel_rfl) (by kernel_rfl) (by kernel_rfl) (by rfl) (fun _ h => ⟨h.1, h.2.1⟩) (.inl fun _ h => ⟨h.1, h.2.1⟩) (fun _ _ _ h => h) (.inl ⟨by rfl, ?hyp11⟩) hSSp ?_
                case hyp11 =>
                  intro w' hSw
                  try dsimp only at hSw
                  go_simp
                  all_goals with_reducible rfl
                try simp only [Act.put]
                refine wpAnyB_take (i := 11) (oi := _) (v := ?vvp12) (fun w' => w'.cell? ⟨gl, mid, none⟩ = some (.int .i64 la) ∧ w'.cell? ⟨gl, mid + 1, none⟩ = some (.int .i64 lb)) rfl (by kernel_rfl) (by kernel_rfl) (by kernel_rfl) (by kernel_rfl) (by rfl) (fun _ h => ⟨h.1, h.2.1⟩) (.inl fun _ h => ⟨h.1, h.2.1⟩) (fun _ _ _ h => h) (.inl ⟨by rfl, ?hyp12⟩) hSSp ?_
                case hyp12 =>
                  intro w' hSw
                  try dsimp only at hSw
                  go_simp
                  all_goals with_reducible rfl
                try simp only [Act.put]
                refine wpAnyB_take (i := 12) (oi := _) (v := ?vvp13) (fun w' => w'.cell? ⟨gl, mid, none⟩ = some (.int .i64 la) ∧ w'.cell? ⟨gl, mid + 1, none⟩ = some (.int .i64 lb)) rfl (by kernel_rfl) (by kernel_rfl) (by kernel_rfl) (by kernel_rfl) (by rfl) (fun _ h => ⟨h.1, h.2.1⟩) (.inl fun _ h => ⟨h.1, h.2.1⟩) (fun _ _ _ h => h) (.inl ⟨by rfl, ?hyp13⟩) hSSp ?_
                case hyp13 =>
                  intro w' hSw
                  try dsimp only at hSw
                  go_simp
                  all_goals with_reducible rfl
                try simp only [Act.put]
                refine wpAnyB_take (i := 13) (oi := _) (v := ?vvp14) (fun w' => w'.cell? ⟨gl, mid, none⟩ = some (.int .i64 la) ∧ w'.cell? ⟨gl, mid + 1, none⟩ = some (.int .i64 lb)) rfl (by kernel_rfl) (by kernel_rfl) (by kernel_rfl) (by kernel_rfl) (by rfl) (fun _ h => ⟨h.1, h.2.1⟩) (.inl fun _ h => ⟨h.1, h.2.1⟩) (fun _ _ _ h => h) (.inl ⟨by rfl, ?hyp14⟩) hSSp ?_
                case hyp14 =>
                  intro w' hSw
                  try dsimp only at hSw
                  go_simp
                  all_goals with_reducible rfl
                try simp only [Act.put]
                refine wpAnyB_one (i := 14) false rfl (by kernel_rfl) (by kernel_rfl) ?_
                intro KK hKK
                go_simp
                generalize hW2 : (wo.alloc (.cells #[.int .i64 (k : Int), .int .i64 (mid : Int), .int .i64 la, .int .i64 lb] 80)).drew = W2
                have HI2 := HI.out.below (((Below.refl _ wo).alloc (Nat.le_refl _) (.cells #[.int .i64 (k : Int), .int .i64 (mid : Int), .int .i64 la, .int .i64 lb] 80)).drew)
                have HJ2 := HJ.out.below (((Below.refl _ wo).alloc (Nat.le_refl _) (.cells #[.int .i64 (k : Int), .int .i64 (mid : Int), .int .i64 la, .int .i64 lb] 80)).drew) HJ.out.lt
                have hn2 : ∀ p u, ([.int .i64 (k : Int), .int .i64 (mid : Int), .int .i64 la, .int .i64 lb] : List Value)[p]? = some u → (wo.alloc (.cells #[.int .i64 (k : Int), .int .i64 (mid : Int), .int .i64 la, .int .i64 lb] 80)).drew.cell? ⟨wo.heap.size, p, none⟩ = some u := fun p u hu => ((Has.new (w := wo) (t := 80) (cs := [.int .i64 (k : Int), .int .i64 (mid : Int), .int .i64 la, .int .i64 lb]) rfl).drew.cell p).trans hu
                rw [hW2] at HI2 HJ2 hn2
                clear hW2
                refine hKK.out _ _ ⟨(HI2.l.cellAt mid (by omega)).trans (by rw [List.getElem?_map, HLa.out]; rfl), (HI2.l.cellAt (mid + 1) (by omega)).trans (by rw [List.getElem?_map, HLb.out]; rfl), fun _ => HI2.c.cell 2⟩ ?_
                clear hKK KK
                try simp only [Act.put, List.setIfInBounds_toArray, List.set_cons_zero, List.set_cons_succ]
                refine wpAnyB_one (i := 15) false rfl (by kernel_rfl) (by kernel_rfl) ?_
                intro KK hKK
                refine step_appN rfl (.tmp 62) (.tmp 75) 47 rfl (gl + 1) 80 (.agg #[.int .i64 0, .int .i64 0, .int .i64 0, .int .i64 0]) 4 32 Try.underlying47 infoPn rfl (by omega) (by omega) (.slice P np cp) np (qsC s0.ps) rfl HI2.op ⟨wo.heap.size, 0, none⟩ 1 1 [.int .i64 (k : Int), .int .i64 (mid : Int), .int .i64 la, .int .i64 lb] rfl rfl (fun j u hu => by rw [Addr.add_lit, Nat.zero_add]; exact hn2 j u hu) (one4 _ _ _ _) (by have := HNX.out; have := HI2.nps; omega) HI2.sz ?_
                intro v' w4 hown4 hgrow4 hnil4 hor4
                obtain ⟨A4, c4, rfl⟩ := own_form hown4
                have h4l := kept_of HI2.l HI2.op (by decide) hgrow4
                have hc4 : Has w4 gc _ _ := HI2.c.same (hgrow4.block _ HI2.c.lt (fun e => (HI2.c.ne_own HI2.op (by decide)) e.symm))
                refine hKK.out _ _ ⟨(h4l.cellAt mid (by omega)).trans (by rw [List.getElem?_map, HLa.out]; rfl), (h4l.cellAt (mid + 1) (by omega)).trans (by rw [List.getElem?_map, HLb.out]; rfl), fun _ => hc4.cell 2⟩ ?_
                clear hKK KK
                try simp only [Act.put, List.setIfInBounds_toArray]
                refine wpAnyB_take (i := 16) (oi := _) (v := ?vvp15) (fun w' => w'.cell? ⟨gl, mid, none⟩ = some (.int .i64 la) ∧ w'.cell? ⟨gl, mid + 1, none⟩ = some (.int .i64 lb)) rfl (by kernel_rfl) (by kernel_rfl) (by kernel_rfl) (by kernel_rfl) (by rfl) (fun _ h => ⟨h.1, h.2.1⟩) (.inl fun _ h => ⟨h.1, h.2.1⟩) (fun _ _ _ h => h) (.inl ⟨by rfl, ?hyp15⟩) ⟨(h4l.cellAt mid (by omega)).trans (by rw [List.getElem?_map, HLa.out]; rfl), (h4l.cellAt (mid + 1) (by omega)).trans (by rw [List.getElem?_map, HLb.out]; rfl), fun _ => hc4.cell 2⟩ ?_
                case hyp15 =>
                  intro w' hSw
                  try dsimp only at hSw
                  go_simp
                  all_goals with_reducible rfl
                try simp only [Act.put]
                refine wpAnyB_one (i := 17) true rfl (by kernel_rfl) (by kernel_rfl) ?_
                intro KK hKK
                have f4 := hc4.free 2
                have q4 := hc4.lt
                have s4 : w4.cell? ⟨gc, 2, none⟩ = some (.slice P np cp) := hc4.cell 2
                have h5l := (But.set gc w4 2 (.slice A4 (np + 1) c4)).own h4l (hc4.ne_own h4l (by decide))
                go_simp
                refine hKK.out _ _ ⟨(h5l.cellAt mid (by omega)).trans (by rw [List.getElem?_map, HLa.out]; rfl), (h5l.cellAt (mid + 1) (by omega)).trans (by rw [List.getElem?_map, HLb.out]; rfl), fun hh => by cases hh⟩ ?_
                clear hKK KK
                try simp only [Act.put, List.setIfInBounds_toArray, List.set_cons_zero, List.set_cons_succ]
                refine wpAnyB_done (by kernel_rfl) (NoPanic.normal ?_) _
                have hR := HI2.pinned ⟨(k : Int), (mid : Int), la, lb⟩ hown4 hgrow4
                have hW := work_pinned HJ2 HI2 hgrow4 hgw2 (.slice A4 (np + 1) c4)
                rw [← HPE.out] at hR
                have HR := Lib.hid hR
                have HWW := Lib.hid hW
                clear hR hW hown4 hgrow4 hnil4 hor4 h4l hc4 f4 q4 s4 h5l y2 y3 y4 HI2 HJ2 hn2
                go_wp2
                go_meet
                case rel => exact ⟨A4, np + 1, c4, Lib.hid (by unfold Mk.pinIf; rw [if_pos hc]; first | exact HR.out | exact HR.out.below (Below.drew (Below.refl _ _))), Lib.hid (by first | exact HWW.out | exact HWW.out.drew)⟩
              · have hc2 : ((rw_[j].toNat : Int) == 80) = false := by
                  rw [← HCH.out, beq_eq_false_iff_ne]
                  intro hh
                  exact hc (UInt8.toNat_inj.1 (show ch.toNat = 80 by omega))
                go_wp2
                go_meet
                case rel => exact ⟨P, np, cp, Lib.hid (by unfold Mk.pinIf; rw [if_neg hc]; exact HI.out), HJ⟩
            case rest =>
              clear HI HJ k1 q6
              obtain ⟨P, np, cp, HI, HJ⟩ := hcut
              have hlm : s0.l.length = 48 := HLL.out
              obtain ⟨he1, he2⟩ := SE.out
              have J := Lib.hid (crossings42 (rw_.extract j (j + 1)) wc (by omega) he2)
              rw [he1, SX.out] at J
              obtain ⟨ns, hns⟩ : ∃ ns, ns = crW [ch] 1 := ⟨_, rfl⟩
              have HNS : Hid (ns.length ≤ 3 ∧ ∀ n ∈ ns, n ≠ 0 ∧ -3 ≤ n ∧ n ≤ 3) := by rw [hns]; exact ⟨crW_len _ 1, crL_mem _⟩
              rw [← hns] at J HLE
              have i3 : IntKind.i64.wrap ((j : Int) + 1) = (j : Int) + 1 := IntWalk.i64_in _ (by omega)
              clear he1 he2 hns hlm
              go_wp2_with fail
              refine J.out.mono ?_
              rintro e w7 ⟨An, nn, cn, rfl, rn, ln, hb7⟩
              have HRN := Lib.hid (own_mono rn HI.out.sz); clear rn
              have HI7 := Lib.hid (HI.out.below hb7)
              have HJ7 := Lib.hid (HJ.out.below hb7 HJ.out.lt)
              have HLN := Lib.hid ln
              have hnn3 : nn ≤ 3 := by rw [← ln]; exact HNS.out.1
              clear J HI HJ SL i3 hb7 ln
              go_wp2
              go_loopw [14] (fun i wr => ∃ (q : Nat) (X : Option Addr) (nx cx : Nat), q ≤ nn ∧ i = .int .i64 (q : Int) ∧ Hid (MkR w1 wr gc gl cl m (m : Int) (Mk.crosses (s0.pinIf (k : Int) mid ch) (k : Int) mid ns q) X nx cx P np cp) ∧ Hid (Has wr gw 63 (wkCells x)) ∧ Hid (wr.ownsRow (gl + 1) 3 1 (.slice An nn cn) nn (ns.map vInt))) (fun i _ => nn - (intOf i).toNat)
              case atStart => exact ⟨0, X, nx, cx, Nat.zero_le _, rfl, HI7, HJ7, HRN⟩
              case round =>
                clear HI7 HJ7 HRN
                obtain ⟨q, X, nx, cx, hq, rfl, HI, HJ, HRN⟩ := hrel
                obtain ⟨wo, rfl⟩ : ∃ wo : World, wo = wr := ⟨_, rfl⟩
                by_cases hlq : q < nn
                · obtain ⟨u, hu⟩ := get_of_lt (l := ns) (k := q) (by rw [HLN.out]; exact hlq)
                  obtain ⟨hu0, hu1, hu2⟩ := HNS.out.2 u (mem_of_get hu)
                  obtain ⟨gn, rfl, hgn, hgn2, hcu⟩ := own_at HRN.out (j := q) (u := vInt u) (by rw [List.getElem?_map, hu]; rfl)
                  have HLL2 := Lib.hid ((Mk.crosses_len (s0.pinIf (k : Int) mid ch) (k : Int) mid ns q).trans ((congrArg List.length (Mk.pinIf_l s0 (k : Int) mid ch)).trans HLL.out))
                  have HCE := Lib.hid (Mk.crosses_succ (s := s0.pinIf (k : Int) mid ch) (i := (k : Int)) (mid := mid) hu)
                  have HNX2 : Hid (nx ≤ 19200 + 51) := by
                    have h1 := HI.out.nxs
                    have h5 := Mk.crosses_xs (s0.pinIf (k : Int) mid ch) (k : Int) mid ns q
                    rw [Mk.pinIf_xs] at h5
                    have h6 := HNX.out
                    show nx ≤ 19200 + 51
                    omega
                  have k1 : wo.cell? ⟨gw, 1, none⟩ = some (.int .i64 (a : Int)) := by rw [← HXA.out]; exact HJ.out.cell 1
                  have q6 := HJ.out.lt
                  have qn : (q : Int) < (nn : Int) := by omega
                  obtain ⟨mx, hmx⟩ : ∃ mx, (if u < -u then -u else u) = mx := ⟨_, rfl⟩
                  have hmx2 : 1 ≤ mx ∧ mx ≤ 3 := by rw [← hmx]; split <;> omega
                  obtain ⟨t, ht⟩ : ∃ t : Nat, 2 * (a : Int) + mx - 1 = (t : Int) := Int.eq_ofNat_of_zero_le (by omega)
                  have htm : t + 1 < m := by have := HMA2.out; omega
                  have HMA : Hid (mkAt mid u = (t : Int)) := by show (mid : Int) - 2 + (if u < -u then -u else u) = (t : Int); rw [hmx]; have := HMA2.out; omega
                  have n1 : IntKind.i64.wrap (-u) = -u := IntWalk.i64_in _ (by omega)
                  have n2 : IntKind.i64.wrap (2 * (a : Int) + mx) = 2 * (a : Int) + mx := IntWalk.i64_in _ (by have := HMA2.out; omega)
                  have n3 : IntKind.i64.wrap (t : Int) = (t : Int) := IntWalk.i64_in _ (by omega)
                  go_upto_region 23 with (fail)
                  go_region_held3 (fun W => W.cell? ⟨gw, 1, none⟩ = some (.int .i64 (a : Int)) ∧ W.cell? ⟨gn, q, none⟩ = some (.int .i64 u)) (go_keep) (fail)
                  obtain ⟨la, hla⟩ := get_of_lt (l := ((Mk.crosses (s0.pinIf (k : Int) mid ch) (k : Int) mid ns q)).l) (k := t) (by rw [HLL2.out]; omega)
                  obtain ⟨lb, hlb⟩ := get_of_lt (l := ((Mk.crosses (s0.pinIf (k : Int) mid ch) (k : Int) mid ns q)).l) (k := t + 1) (by rw [HLL2.out]; omega)
                  have HLA := Lib.hid hla
                  have HLB := Lib.hid hlb
                  have HLa : Hid (((((Mk.crosses (s0.pinIf (k : Int) mid ch) (k : Int) mid ns q)).l).take m)[t]? = some la) := by show _ = _; rw [List.getElem?_take, if_pos (by omega)]; exact hla
                  have HLb : Hid (((((Mk.crosses (s0.pinIf (k : Int) mid ch) (k : Int) mid ns q)).l).take m)[t + 1]? = some lb) := by show _ = _; rw [List.getElem?_take, if_pos (by omega)]; exact hlb
                  have j1 : (t : Int) < (m : Int) := by omega
                  have j2 : t < m := by omega
                  have j3 : IntKind.i64.wrap ((t : Int) + 1) = (t : Int) + 1 := IntWalk.i64_in _ (by omega)
                  have j4 : (t : Int) + 1 < (m : Int) := by omega
                  have j5 : (0 : Int) ≤ (t : Int) + 1 := by omega
                  have j6 : ((t : Int) + 1).toNat = t + 1 := by omega
                  have ya : wo.cell? ⟨gl, t, none⟩ = some (.int .i64 la) := (HI.out.l.cellAt t (by omega)).trans (by rw [List.getElem?_map, HLa.out]; rfl)
                  have yb : wo.cell? ⟨gl, t + 1, none⟩ = some (.int .i64 lb) := (HI.out.l.cellAt (t + 1) (by omega)).trans (by rw [List.getElem?_map, HLb.out]; rfl)
                  have ql := (HI.out.l.lt gl rfl).2
                  clear hla hlb k1 q6 n1 n2 hmx ht
                  go_upto_region 24 with (fail)
                  go_region_held3 (fun W => W.cell? ⟨gl, t, none⟩ = some (.int .i64 la) ∧ W.cell? ⟨gl, t + 1, none⟩ = some (.int .i64 lb)) (go_keep) (fail)
                  go_upto_if 124 with (fail)
                  obtain ⟨w5, hw5⟩ : ∃ w5, w5 = (wo.alloc (.cells #[.int .i64 (k : Int), .int .i64 (t : Int), .int .i64 la, .int .i64 lb] 83)).drew.drew := ⟨_, rfl⟩
                  rw [← hw5]
                  obtain ⟨gx, hgx⟩ : ∃ gx, gx = wo.heap.size := ⟨_, rfl⟩
                  rw [← hgx]
                  have hb5 : Below wo.heap.size wo w5 := by rw [hw5]; exact ((Below.refl _ wo).alloc (Nat.le_refl _) _).drew.drew
                  have K5 : Has w5 gx 83 [.int .i64 (k : Int), .int .i64 (t : Int), .int .i64 la, .int .i64 lb] := by rw [hw5, hgx]; exact (Has.new rfl).drew.drew
                  have HGX := Lib.hid hgx
                  obtain ⟨cc, hcc⟩ : ∃ cc, cc = if u < 0 then lb else la := ⟨_, rfl⟩
                  obtain ⟨dd, hdd⟩ : ∃ dd, dd = if u < 0 then la else lb := ⟨_, rfl⟩
                  have HY : Hid ((if u < 0 then (⟨(k : Int), (t : Int), lb, la⟩ : Q4) else ⟨(k : Int), (t : Int), la, lb⟩) = ⟨(k : Int), (t : Int), cc, dd⟩) := by show _ = _; rw [hcc, hdd]; split <;> rfl
                  have HCC := Lib.hid hcc
                  have HDD := Lib.hid hdd
                  clear ya yb ql hgx hw5 hcc hdd
                  go_cut [] from 87 to 152 (fun wx => Hid (Below wo.heap.size wo wx) ∧ Hid (Has wx gx 83 [.int .i64 (k : Int), .int .i64 (t : Int), .int .i64 cc, .int .i64 dd]))
                  case first =>
                    by_cases hneg : u < 0
                    · have x2 : w5.cell? ⟨gx, 2, none⟩ = some (.int .i64 la) := K5.cell 2
                      have x3 : w5.cell? ⟨gx, 3, none⟩ = some (.int .i64 lb) := K5.cell 3
                      have f2 := K5.free 2
                      have f3 := K5.free 3
                      have qx := K5.lt
                      go_wp2
                      go_meet
                      case rel => exact ⟨Lib.hid ((hb5.setCell (by rw [HGX.out]; exact Nat.le_refl _) _).setCell (by rw [HGX.out]; exact Nat.le_refl _) _), by rw [HCC.out, HDD.out, if_pos hneg, if_pos hneg]; exact (K5.set 2 _).set 3 _⟩
                    · go_wp2
                      go_meet
                      case rel => exact ⟨hb5, by rw [HCC.out, HDD.out, if_neg (by omega), if_neg (by omega)]; exact K5⟩
                  case rest =>
                    obtain ⟨HB6, HK6⟩ := hcut
                    have HI6 := HI.out.below HB6.out
                    have HI6a := Lib.hid (HI6.below ((Below.refl _ wc).alloc (Nat.le_refl _) (.cells #[.int .i64 (k : Int), .int .i64 (t : Int), .int .i64 cc, .int .i64 dd] 83)))
                    have HJ6 := HJ.out.below HB6.out HJ.out.lt
                    have HJ6a := Lib.hid (HJ6.alloc (.cells #[.int .i64 (k : Int), .int .i64 (t : Int), .int .i64 cc, .int .i64 dd] 83))
                    have HR6a := Lib.hid (own_below (own_below HRN.out HB6.out) ((Below.refl _ wc).alloc (Nat.le_refl _) (.cells #[.int .i64 (k : Int), .int .i64 (t : Int), .int .i64 cc, .int .i64 dd] 83)))
                    have y1 : wc.cell? ⟨gc, 1, none⟩ = some (.slice X nx cx) := HI6.c.cell 1
                    have qc := HI6.c.lt
                    have x0 : wc.cell? ⟨gx, 0, none⟩ = some (.int .i64 (k : Int)) := HK6.out.cell 0
                    have x1 : wc.cell? ⟨gx, 1, none⟩ = some (.int .i64 (t : Int)) := HK6.out.cell 1
                    have x2 : wc.cell? ⟨gx, 2, none⟩ = some (.int .i64 cc) := HK6.out.cell 2
                    have x3 : wc.cell? ⟨gx, 3, none⟩ = some (.int .i64 dd) := HK6.out.cell 3
                    have qx := HK6.out.lt
                    have hbs : gl + 1 ≤ wc.heap.size := HI6.sz
                    clear HI6 HJ6 hb5 K5
                    go_upto_region 27 with (fail)
                    go_wp2_with (first | (at_builtin; refine wpList_app rfl (.tmp 132) (.tmp 134) _ rfl (gl + 1) 83 (.agg #[.int .i64 0, .int .i64 0, .int .i64 0, .int .i64 0]) 4 32 Try.underlying46 infoCr rfl (by omega) (by omega) _ _ _ rfl HI6a.out.ox wc.heap.size [.int .i64 (k : Int), .int .i64 (t : Int), .int .i64 cc, .int .i64 dd] rfl rfl (news4 _ _ _ _ _ _) (one4 _ _ _ _) (by have := HNX2.out; omega) (by simp; omega) ?_; intro ga cap1 w7 hg1 hown1 hgrow1 hor1; have HC7 : Has w7 gc _ _ := HI6a.out.c.same (hgrow1.block gc HI6a.out.c.lt (fun e => (HI6a.out.c.ne_own HI6a.out.ox (by decide)) e.symm)); have z1 : w7.cell? ⟨gc, 1, none⟩ = some (.slice X nx cx) := HC7.cell 1; have f1 := HC7.free 1; have q7 := HC7.lt) | fail)
                    have hI8 := HI6a.out.crossed ⟨(k : Int), (t : Int), cc, dd⟩ hown1 hgrow1
                    have hJ8 := work_crossed HJ6a.out HI6a.out hgrow1 hgw2 (.slice (some ⟨ga, 0, none⟩) (nx + 1) cap1)
                    have hR8 := rowR_crossed HR6a.out HI6a.out hgrow1 (.slice (some ⟨ga, 0, none⟩) (nx + 1) cap1)
                    obtain ⟨W8, hW8⟩ : ∃ W8, W8 = w7.setCell ⟨gc, 1, none⟩ (.slice (some ⟨ga, 0, none⟩) (nx + 1) cap1) := ⟨_, rfl⟩
                    rw [← hW8] at hI8 hJ8 hR8 ⊢
                    have HI8 := Lib.hid hI8
                    have HJ8 := Lib.hid hJ8
                    have HR8 := Lib.hid hR8
                    clear hI8 hJ8 hR8 hW8 hown1 hgrow1 hor1 HC7 z1 f1 q7 y1 x0 x1 x2 x3 qx qc HI6a HJ6a HR6a
                    have ya : W8.cell? ⟨gl, t, none⟩ = some (.int .i64 la) := (HI8.out.l.cellAt t (by omega)).trans (by rw [List.getElem?_map, HLa.out]; rfl)
                    have yb : W8.cell? ⟨gl, t + 1, none⟩ = some (.int .i64 lb) := (HI8.out.l.cellAt (t + 1) (by omega)).trans (by rw [List.getElem?_map, HLb.out]; rfl)
                    have ql := (HI8.out.l.lt gl rfl).2
                    refine wp_region_noPanic ?_
                    refine wp_region_B (fun b w' => gl < w'.heap.size ∧ (b = false → w'.cell? ⟨gl, t, none⟩ = some (.int .i64 la) ∧ w'.cell? ⟨gl, t + 1, none⟩ = some (.int .i64 lb))) 15 (by kernel_rfl) ?_
                    have hSSs : (fun b w' => gl < w'.heap.size ∧ (b = false → w'.cell? ⟨gl, t, none⟩ = some (.int .i64 la) ∧ w'.cell? ⟨gl, t + 1, none⟩ = some (.int .i64 lb))) false (W8.drew) := ⟨ql, fun _ => ⟨ya, yb⟩⟩
                    refine wpAnyB_take (i := 0) (oi := _) (v := ?vvs1) (fun w' => gl < w'.heap.size) rfl (by kernel_rfl) (by kernel_rfl) (by kernel_rfl) (by kernel_rfl) (by rfl) (fun _ h => h.1) (.inl fun _ h => h.1) (fun _ _ _ h => h) (.inl ⟨by rfl, ?hys1⟩) hSSs ?_
                    case hys1 =>
                      intro w' hSw
                      try dsimp only at hSw
                      go_simp
                      all_goals with_reducible rfl
                    try simp only [Act.put, List.setIfInBounds_toArray]
                    refine wpAnyB_take (i := 1) (oi := _) (v := ?vvs2) (fun w' => gl < w'.heap.size) rfl (by kernel_rfl) (by kernel_rfl) (by kernel_rfl) (by kernel_rfl) (by rfl) (fun _ h => h.1) (.inl fun _ h => h.1) (fun _ _ _ h => h) (.inl ⟨by rfl, ?hys2⟩) hSSs ?_
                    case hys2 =>
                      intro w' hSw
                      try dsimp only at hSw
                      go_simp
                      all_goals with_reducible rfl
                    try simp only [Act.put]
                    refine wpAnyB_take (i := 2) (oi := _) (v := ?vvs3) (fun w' => gl < w'.heap.size) rfl (by kernel_rfl) (by kernel_rfl) (by kernel_rfl) (by kernel_rfl) (by rfl) (fun _ h => h.1) (.inl fun _ h => h.1) (fun _ _ _ h => h) (.inl ⟨by rfl, ?hys3⟩) hSSs ?_
                    case hys3 =>
                      intro w' hSw
                      try dsimp only at hSw
                      go_simp
                      all_goals with_reducible rfl
                    try simp only [Act.put]
                    refine wpAnyB_take (i := 3) (oi := _) (v := ?vvs4) (fun w' => gl < w'.heap.size) rfl (by kernel_rfl) (by kernel_rfl) (by kernel_rfl) (by kernel_rfl) (by rfl) (fun _ h => h.1) (.inl fun _ h => h.1) (fun _ _ _ h => h) (.inl ⟨by rfl, ?hys4⟩) hSSs ?_
                    case hys4 =>
                      intro w' hSw
                      try dsimp only at hSw
                      go_simp
                      all_goals with_reducible rfl
                    try simp only [Act.put]
                    refine wpAnyB_take (i := 4) (oi := _) (v := ?vvs5) (fun w' => gl < w'.heap.size) rfl (by kernel_rfl) (by kernel_rfl) (by kernel_rfl) (by kernel_rfl) (by rfl) (fun _ h => h.1) (.inl fun _ h => h.1) (fun _ _ _ h => h) (.inl ⟨by rfl, ?hys5⟩) hSSs ?_
                    case hys5 =>
                      intro w' hSw
                      try dsimp only at hSw
                      go_simp
                      all_goals with_reducible rfl
                    try simp only [Act.put]
                    refine wpAnyB_take (i := 5) (oi := _) (v := ?vvs6) (fun w' => gl < w'.heap.size) rfl (by kernel_rfl) (by kernel_rfl) (by kernel_rfl) (by kernel_rfl) (by rfl) (fun _ h => h.1) (.inl fun _ h => h.1) (fun _ _ _ h => h) (.inl ⟨by rfl, ?hys6⟩) hSSs ?_
                    case hys6 =>
                      intro w' hSw
                      try dsimp only at hSw
                      go_simp
                      all_goals with_reducible rfl
                    try simp only [Act.put]
                    refine wpAnyB_take (i := 6) (oi := _) (v := ?vvs7) (fun w' => gl < w'.heap.size) rfl (by kernel_rfl) (by kernel_rfl) (by kernel_rfl) (by kernel_rfl) (by rfl) (fun _ h => h.1) (.inl fun _ h => h.1) (fun _ _ _ h => h) (.inl ⟨by rfl, ?hys7⟩) hSSs ?_
                    case hys7 =>
                      intro w' hSw
                      try dsimp only at hSw
                      go_simp
                      all_goals with_reducible rfl
                    try simp only [Act.put]
                    refine wpAnyB_take (i := 7) (oi := _) (v := ?vvs8) (fun w' => gl < w'.heap.size) rfl (by kernel_rfl) (by kernel_rfl) (by kernel_rfl) (by kernel_rfl) (by rfl) (fun _ h => h.1) (.inl fun _ h => h.1) (fun _ _ _ h => h) (.inl ⟨by rfl, ?hys8⟩) hSSs ?_
                    case hys8 =>
                      intro w' hSw
                      try dsimp only at hSw
                      go_simp
                      all_goals with_reducible rfl
                    try simp only [Act.put]
                    refine wpAnyB_take (i := 8) (oi := _) (v := ?vvs9) (fun w' => gl < w'.heap.size) rfl (by kernel_rfl) (by kernel_rfl) (by kernel_rfl) (by kernel_rfl) (by rfl) (fun _ h => h.1) (.inl fun _ h => h.1) (fun _ _ _ h => h) (.inl ⟨by rfl, ?hys9⟩) hSSs ?_
                    case hys9 =>
                      intro w' hSw
                      try dsimp only at hSw
                      go_simp
                      all_goals with_reducible rfl
                    try simp only [Act.put]
                    refine wpAnyB_take (i := 9) (oi := _) (v := ?vvs10) (fun w' => gl < w'.heap.size ∧ w'.cell? ⟨gl, t, none⟩ = some (.int .i64 la) ∧ w'.cell? ⟨gl, t + 1, none⟩ = some (.int .i64 lb)) rfl (by kernel_rfl) (by kernel_rfl) (by kernel_rfl) (by kernel_rfl) (by rfl) (fun _ h => ⟨h.1, h.2 rfl⟩) (.inr (by kernel_rfl)) (fun _ _ _ h => h) (.inl ⟨by rfl, ?hys10⟩) hSSs ?_
                    case hys10 =>
                      intro w' hSw
                      try dsimp only at hSw
                      go_simp
                      all_goals with_reducible rfl
                    try simp only [Act.put]
                    refine wpAnyB_take (i := 10) (oi := _) (v := ?vvs11) (fun w' => gl < w'.heap.size) rfl (by kernel_rfl) (by kernel_rfl) (by kernel_rfl) (by kernel_rfl) (by rfl) (fun _ h => h.1) (.inl fun _ h => h.1) (fun _ _ _ h => h) (.inl ⟨by rfl, ?hys11⟩) hSSs ?_
                    case hys11 =>
                      intro w' hSw
                      try dsimp only at hSw
                      go_simp
                      all_goals with_reducible rfl
                    try simp only [Act.put]
                    refine wpAnyB_take (i := 11) (oi := _) (v := ?vvs12) (fun w' => gl < w'.heap.size) rfl (by kernel_rfl) (by kernel_rfl) (by kernel_rfl) (by kernel_rfl) (by rfl) (fun _ h => h.1) (.inl fun _ h => h.1) (fun _ _ _ h => h) (.inl ⟨by rfl, ?hys12⟩) hSSs ?_
                    case hys12 =>
                      intro w' hSw
                      try dsimp only at hSw
                      go_simp
                      all_goals with_reducible rfl
                    try simp only [Act.put]
                    refine wpAnyB_take (i := 12) (oi := _) (v := ?vvs13) (fun w' => gl < w'.heap.size) rfl (by kernel_rfl) (by kernel_rfl) (by kernel_rfl) (by kernel_rfl) (by rfl) (fun _ h => h.1) (.inl fun _ h => h.1) (fun _ _ _ h => h) (.inl ⟨by rfl, ?hys13⟩) hSSs ?_
                    case hys13 =>
                      intro w' hSw
                      try dsimp only at hSw
                      go_simp
                      all_goals with_reducible rfl
                    try simp only [Act.put]
                    refine wpAnyB_take (i := 13) (oi := _) (v := ?vvs14) (fun w' => gl < w'.heap.size ∧ w'.cell? ⟨gl, t, none⟩ = some (.int .i64 la) ∧ w'.cell? ⟨gl, t + 1, none⟩ = some (.int .i64 lb)) rfl (by kernel_rfl) (by kernel_rfl) (by kernel_rfl) (by kernel_rfl) (by rfl) (fun _ h => ⟨h.1, h.2 rfl⟩) (.inr (by kernel_rfl)) (fun _ _ _ h => h) (.inl ⟨by rfl, ?hys14⟩) hSSs ?_
                    case hys14 =>
                      intro w' hSw
                      try dsimp only at hSw
                      go_simp
                      all_goals with_reducible rfl
                    try simp only [Act.put]
                    refine wpAnyB_take (i := 14) (oi := _) (v := ?vvs15) (fun w' => gl < w'.heap.size) rfl (by kernel_rfl) (by kernel_rfl) (by kernel_rfl) (by kernel_rfl) (by rfl) (fun _ h => h.1) (.inl fun _ h => h.1) (fun _ _ _ h => h) (.inl ⟨by rfl, ?hys15⟩) hSSs ?_
                    case hys15 =>
                      intro w' hSw
                      try dsimp only at hSw
                      go_simp
                      all_goals with_reducible rfl
                    try simp only [Act.put]
                    refine wpAnyB_one (i := 15) true rfl (by kernel_rfl) (by kernel_rfl) ?_
                    intro KK hKK
                    have y0 := HI8.out.l.frozenAt t
                    go_simp
                    clear y0
                    have h8 := (HI8.out.l.stored t (vInt lb)).1
                    obtain ⟨w8, hw8⟩ : ∃ w8, w8 = W8.setCell ⟨gl, t, none⟩ (vInt lb) := ⟨_, rfl⟩
                    rw [← hw8] at h8
                    generalize hw9 : W8.setCell ⟨gl, t, none⟩ (.int .i64 lb) = w9
                    obtain rfl : w8 = w9 := hw8.trans hw9
                    have HW8 := Lib.hid hw8
                    clear hw8 hw9
                    have q8 := (h8.lt gl rfl).2
                    refine hKK.out _ _ ⟨q8, fun hh => by cases hh⟩ ?_
                    clear hKK KK
                    try simp only [Act.put, List.setIfInBounds_toArray, List.set_cons_zero, List.set_cons_succ]
                    refine wpAnyB_one (i := 16) true rfl (by kernel_rfl) (by kernel_rfl) ?_
                    intro KK hKK
                    go_simp
                    refine hKK.out _ _ ⟨q8, fun hh => by cases hh⟩ ?_
                    clear hKK KK
                    try simp only [Act.put, List.setIfInBounds_toArray, List.set_cons_zero, List.set_cons_succ]
                    refine wpAnyB_one (i := 17) true rfl (by kernel_rfl) (by kernel_rfl) ?_
                    intro KK hKK
                    have y0 := h8.frozenAt (t + 1)
                    have y1 : w8.cell? ⟨gl, t + 1, none⟩ = some (.int .i64 lb) := (h8.cellAt (t + 1) (by omega)).trans (by rw [List.getElem?_set_ne (by omega), List.getElem?_map, HLb.out]; rfl)
                    go_simp
                    clear y0 y1
                    refine hKK.out _ _ ⟨(by simp; exact q8), fun hh => by cases hh⟩ ?_
                    clear hKK KK
                    try simp only [Act.put, List.setIfInBounds_toArray, List.set_cons_zero, List.set_cons_succ]
                    refine wpAnyB_done (by kernel_rfl) (NoPanic.normal ?_) _
                    have hI9 := HI8.out.swapped t (t + 1) lb la
                    have hJ9 := work_swapped HJ8.out hgw2 t (t + 1) (vInt lb) (vInt la)
                    have hR9 := rowR_swapped HR8.out t (t + 1) (vInt lb) (vInt la)
                    rw [← HW8.out] at hI9 hJ9 hR9
                    have HI9 := Lib.hid hI9
                    have HJ9 := Lib.hid hJ9
                    have HR9 := Lib.hid hR9
                    have HCE2 := Lib.hid (HCE.out.trans (Mk.cross_eq HMA.out HLA.out HLB.out))
                    clear hI9 hJ9 hR9 h8 HW8 q8 ya yb ql
                    go_wp2
                    go_roundw
                    case rel => exact ⟨q + 1, some ⟨ga, 0, none⟩, nx + 1, cap1, by omega, by go_num, Lib.hid (by rw [HCE2.out, HY.out]; first | exact HI9.out | exact HI9.out.below (Below.drew (Below.refl _ _))), Lib.hid (by first | exact HJ9.out | exact HJ9.out.drew), Lib.hid (by first | exact HR9.out | exact own_below HR9.out (Below.drew (Below.refl _ _)))⟩
                    case measure => first | (simp [intOf]; done) | (simp [intOf]; omega)
                · obtain rfl : q = nn := by omega
                  go_wp2
                  go_roundw
                  case rel => exact ⟨j + 1, X, nx, cx, P, np, cp, by omega, by go_num, Lib.hid (by rw [HLE.out, HLN.out]; exact HI.out), HJ⟩
                  case measure => first | (simp [intOf]; done) | (simp [intOf]; omega)
          · obtain rfl : j = rw_.size := by omega
            go_wp2
            go_roundw
            case rel => exact ⟨k + 1, X, nx, cx, P, np, cp, by omega, by go_num, Lib.hid (by rw [HWK.out]; exact HI.out)⟩
            case measure => first | (simp [intOf]; done) | (simp [intOf]; omega)
    · obtain rfl : n = k := by omega
      have M2 := KK2.out.below HI.out.b hwc
      have y0 : wo.cell? ⟨gc, 0, none⟩ = some (.int .i64 (m : Int)) := HI.out.c.cell 0
      have y1 : wo.cell? ⟨gc, 1, none⟩ = some (.slice X nx cx) := HI.out.c.cell 1
      have y2 : wo.cell? ⟨gc, 2, none⟩ = some (.slice P np cp) := HI.out.c.cell 2
      have z0 : wo.cell? ⟨w.heap.size + 1, 0, none⟩ = some (.int .i64 0) := M2.cell 0
      have z1 : wo.cell? ⟨w.heap.size + 1, 1, none⟩ = some (.slice none 0 0) := M2.cell 1
      have z2 : wo.cell? ⟨w.heap.size + 1, 2, none⟩ = some (.slice none 0 0) := M2.cell 2
      have f0 := M2.free 0
      have f1 := M2.free 1
      have f2 := M2.free 2
      have qa := M2.lt
      have qb := HI.out.c.lt
      go_wp2
      have M3 := ((M2.set 0 (.int .i64 (m : Int))).set 1 (.slice X nx cx)).set 2 (.slice P np cp)
      have hB := ((But.set (w.heap.size + 1) wo 0 (.int .i64 (m : Int))).trans (But.set (w.heap.size + 1) _ 1 (.slice X nx cx))).trans (But.set (w.heap.size + 1) _ 2 (.slice P np cp))
      have hox := hB.own HI.out.ox (M2.ne_own HI.out.ox (by decide))
      have hop := hB.own HI.out.op (M2.ne_own HI.out.op (by decide))
      have hcx := own_caps hox
      have hcp := own_caps hop
      refine post_cell_tmp M3 rfl rfl rfl rfl Try.underlying49 (by kernel_rfl) ⟨X, nx, cx, P, np, cp, rfl, own_rdQ hox, own_rdQ hop, HI.out.nxs, HI.out.nps, hcx.1, hcx.2, hcp.1, hcp.2, ?_⟩
      exact (B1.trans (HI.out.b.mono (by omega))).trans (hB.below (by omega) (by omega))
end Go.Proofs.Ytdimfbmbomgiaaa
