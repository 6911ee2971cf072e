/-
  Walk of the law PillowThreads: it returns true.
-/
import Derived.Test.YtaenafcecfdffaaVA11
namespace Go.Proofs.Ytaenafcecfdffaa
open Go.RowKit
theorem pil_mem {z : Pil} {S M V L X P : Value} {i : Nat} {r : RowD} (hi : (pilRows z S M V L X P)[i]? = some r) : r.v ∈ [S, M, V, L, X, P] := by
  have hm := mem_of_get hi
  simp only [pilRows, List.mem_cons, List.not_mem_nil, or_false] at hm
  rcases hm with rfl | rfl | rfl | rfl | rfl | rfl <;> simp
theorem pil_row {W : World} {B g : Nat} {p s : Int} {z : Pil} {S M V L X P : Value} (h : PilH W B g p s z S M V L X P) {v : Value} (hv : v ∈ [S, M, V, L, X, P]) {b : Nat} (hb : v.ownBlock = some b) : B ≤ b ∧ b < W.heap.size := by
  simp only [List.mem_cons, List.not_mem_nil, or_false] at hv
  rcases hv with rfl | rfl | rfl | rfl | rfl | rfl
  · exact (h.o 0 _ rfl).lt b hb
  · exact (h.o 1 _ rfl).lt b hb
  · exact (h.o 2 _ rfl).lt b hb
  · exact (h.o 3 _ rfl).lt b hb
  · exact (h.o 4 _ rfl).lt b hb
  · exact (h.o 5 _ rfl).lt b hb
theorem pil_lt {W : World} {B g : Nat} {p s : Int} {z : Pil} {S M V L X P : Value} (h : PilH W B g p s z S M V L X P) {b : Nat} (hb : blkV g [S, M, V, L, X, P] b) : b < W.heap.size := by
  rcases hb with rfl | ⟨v, hv, hb⟩
  · exact h.c.lt
  · exact (pil_row h hv hb).2
theorem pil_keep {W W' : World} {B g : Nat} {p s : Int} {z : Pil} {S M V L X P : Value} {Q : Nat → Prop} (h : PilH W B g p s z S M V L X P) (k : KeepB Q W W') (hn : ∀ r, Q r → ¬ blkV g [S, M, V, L, X, P] r) : PilH W' B g p s z S M V L X P :=
  RowsH.keep h k (fun e => hn g e (.inl rfl)) (fun _ _ b hi hb e => hn b e (.inr ⟨_, pil_mem hi, hb⟩))
set_option maxRecDepth 100000 in
set_option maxHeartbeats 40000000 in
theorem threadsP (p : Int) (A : Option Addr) (n c : Nat) (b : Int) (ws : List Wk) (w : World) (hn : n ≤ 9223372036854775807) (hw : RdW w w.heap.size A ws) (hl : ws.length = n) (hs : ∀ x ∈ ws, x.word.size ≤ 9223372036854775807) :
    Calls Try.prog 4 #[.agg #[.int .i64 p, .slice A n c], .int .i64 b] w fun e w' => e = .returned (.bool true) ∧ Below w.heap.size w w' := by
  have CS := Lib.hid (fun (W : World) (hb : Below w.heap.size w W) => stepsC p b A n c ws W hn (hw.up hb) hl hs)
  have CE := Lib.hid (fun (W : World) (hb : Below w.heap.size w W) (D : Option Addr) (k d : Nat) (hk : k ≤ 1000) (hr : RdW W W.heap.size D ws) (hkl : ws.length = k) => same04 p p D A k n d c ws ws W (by omega) hn hr (hw.up hb) hkl hl)
  have K0 : Has (w.alloc (.cells #[.int .i64 p, .slice A n c] 24)) w.heap.size 24 [.int .i64 p, .slice A n c] := Has.new rfl
  have HL := Lib.hid hl
  have HCK : Hid (ckS p b ws = 0 → SOk p ws ∧ (2 ≤ b ∧ b ≤ 8 ∧ b ≤ p)) := fun h0 => by
    unfold ckS at h0
    by_cases e : schk p ws = 0
    · rw [if_neg (by simpa using e)] at h0
      cases hb : spB p b with
      | true => exact ⟨schk_zero e, of_decide_eq_true hb⟩
      | false => rw [hb] at h0; cases h0
    · rw [if_pos e] at h0; exact absurd h0 e
  clear hw hl hs
  go_enter Try.func4, Try.ntmps4
  go_wp2_with fail
  refine (CS.out _ (by go_grown)).mono ?_
  rintro e w1 ⟨hres, hb1⟩
  have B1 := Lib.hid (bvia (show Below w.heap.size w _ by go_grown) hb1)
  have HB := Lib.hid (K0.below hb1 K0.lt)
  rcases hres with ⟨h0, rfl⟩ | ⟨h0, A2, n2, c2, rfl, r2, l2⟩
  · have e1 : (ckS p b ws != 0) = true := by simpa using h0
    generalize ckS p b ws = er at *
    clear h0 K0 hb1 CS
    as_aux_lemma =>
    go_wp2_with fail
    refine (awakeP _).mono ?_
    rintro e w2 ⟨rfl, hb2⟩
    go_wp2
    go_ret
    exact ⟨rfl, bvia B1.out hb2⟩
  · obtain ⟨hok, hsp⟩ := HCK.out h0
    have R2 := Lib.hid (own_rdW r2)
    have L2 := Lib.hid l2
    have a0 : w1.cell? ⟨w.heap.size, 0, none⟩ = some (.int .i64 p) := HB.out.cell 0
    have a1 : w1.cell? ⟨w.heap.size, 1, none⟩ = some (.slice A n c) := HB.out.cell 1
    have q0 := HB.out.lt
    by_cases h60 : 60 < n
    · have j60 : (60 : Int) < (n : Int) := by omega
      clear h0 K0 hb1 CS r2 l2 hok hsp
      as_aux_lemma =>
      go_wp2_with fail
      refine (awakeP _).mono ?_
      rintro e w2 ⟨rfl, hb2⟩
      go_wp2
      go_ret
      exact ⟨rfl, bvia B1.out hb2⟩
    · have j60 : decide ((60 : Int) < (n : Int)) = false := decide_eq_false (by omega)
      have hcs : csE p b [] = 0 := by
        unfold csE
        rw [if_neg (by rw [show spB p b = true from decide_eq_true hsp]; have := hok.ge; have := hok.le; rintro (c | c | c); · omega
                       · omega
                       · cases c)]
        rfl
      have hp : 2 ≤ p ∧ p ≤ 24 := ⟨hok.ge, hok.le⟩
      have HG := Lib.hid (st_good hp hsp ws (pil0 (lineN (2 * p.toNat))) (.inl rfl) (fun x hx => ⟨hok.good x hx, hok.short x hx, hok.form x hx⟩) (by show 0 + ws.length ≤ 400; rw [HL.out]; omega))
      have HGO := Lib.hid (go_at HG.out.1)
      have HWD := Lib.hid (stAll_words (p := p) (s := b) ws (-1) hok.short)
      have hst2 : n2 ≤ 120 := by rw [← l2]; have := stAll_len (p := p) (s := b) ws (-1); rw [HL.out] at this; omega
      have HFW : Hid ((zRun (pil0 (lineN (2 * p.toNat))) (stAll p b (-1) ws) n2).works = ws) := by
        show _ = _
        unfold zRun
        rw [← l2, List.take_length]
        exact HG.out.2
      have HZ := Lib.hid (zRun_all (pil0 (lineN (2 * p.toNat))) HWD.out)
      have CN := Lib.hid (fun W => newC p b W hcs)
      obtain ⟨sl, hsl⟩ : ∃ sl, sl = stAll p b (-1) ws := ⟨_, rfl⟩
      have HGO2 : Hid (∀ (k : Nat) (x : Wk), sl[k]? = some x → pilE p b (zRun (pil0 (lineN (2 * p.toNat))) sl k) x = 0) := by
        show ∀ (k : Nat) (x : Wk), sl[k]? = some x → pilE p b (zRun (pil0 (lineN (2 * p.toNat))) sl k) x = 0
        rw [hsl]; exact HGO.out
      rw [← hsl] at R2 L2 HWD HFW HZ
      obtain ⟨z0, hz0⟩ : ∃ z0, z0 = pil0 (lineN (2 * p.toNat)) := ⟨_, rfl⟩
      have HZ0 : Hid (z0.l.length = 2 * p.toNat ∧ z0.steps.length = 0 ∧ z0.marks.length = 0 ∧ z0.works.length = 0 ∧ z0.xs.length = 0 ∧ z0.ps.length = 0) := by rw [hz0]; exact ⟨lineN_len _, rfl, rfl, rfl, rfl, rfl⟩
      have HZX : Hid (z0.xs = [] ∧ z0.ps = [] ∧ z0.l = lineN (2 * p.toNat)) := by rw [hz0]; exact ⟨rfl, rfl, rfl⟩
      rw [← hz0] at HGO2 HFW HZ CN
      clear h0 K0 hb1 CS r2 l2 hok hsp hcs HG HGO hsl hz0 HCK
      as_aux_lemma =>
      go_wp2_with fail
      refine (CN.out _).mono ?_
      rintro e w3 ⟨⟨g, S3, M3, V3, L3, X3, P3, rfl, h3⟩, hb3⟩
      have H3 := Lib.hid h3
      have B3 := Lib.hid hb3
      clear h3 hb3 CN a0 a1 q0
      as_aux_lemma =>
      obtain ⟨T, hT⟩ : ∃ T : Nat, T = 2 * p.toNat := ⟨_, rfl⟩
      have i1 : IntKind.i64.wrap (2 * p) = (T : Int) := by rw [IntWalk.i64_in _ (by omega)]; omega
      have hT48 : T ≤ 48 := by omega
      have z13 := B3.out.size
      have HZ00 := HZ0.out
      have HBK := Lib.hid (fun (W' : World) (hb : Below w1.heap.size w1 W') => HB.out.below hb HB.out.lt)
      have qb1 := HB.out.lt
      have hzl : z0.l.length = T := by rw [hT]; exact HZ00.1
      have HZL : Hid (z0.l = lineN T) := by rw [hT]; exact HZX.out.2.2
      have hT0 : 0 < T := by omega
      have HTT := Lib.hid hT
      clear hT
      as_aux_lemma =>
      go_wp2
      go_loopw [8, 10] (fun v i wr => ∃ (k : Nat) (A' : Option Addr) (c' : Nat), k ≤ T ∧ i = .int .i64 (k : Int) ∧ v = .slice A' k c' ∧ Hid (PilH wr w1.heap.size g p b z0 S3 M3 V3 L3 X3 P3) ∧ Hid (wr.ownsRow w1.heap.size 3 1 v k ((lineN k).map vInt)) ∧ Hid (∀ r, v.ownBlock = some r → ¬ blkV g [S3, M3, V3, L3, X3, P3] r) ∧ Hid (Below w1.heap.size w1 wr)) (fun _ i _ => T - (intOf i).toNat)
      case atStart => exact ⟨0, none, 0, Nat.zero_le _, rfl, rfl, H3, World.ownsRow_nil _ _ _ _, Lib.hid (fun r hr => by cases hr), B3⟩
      case round =>
        clear H3 B3
        as_aux_lemma =>
        obtain ⟨k, A', c', hk, rfl, rfl, HP, HO, HN, HBW⟩ := hrel
        obtain ⟨wo, rfl⟩ : ∃ wo : World, wo = wr := ⟨_, rfl⟩
        have hk0 := HBK.out wo HBW.out
        have a0 : wo.cell? ⟨w.heap.size, 0, none⟩ = some (.int .i64 p) := hk0.cell 0
        have q0 := hk0.lt
        have hzo := HBW.out.size
        clear hk0
        as_aux_lemma =>
        by_cases hlt : k < T
        · have jk : (k : Int) < (T : Int) := by omega
          have HPA := Lib.hid (RowsH.below HP.out ((Below.refl wo.heap.size wo).alloc (Nat.le_refl _) (.cells #[.int .i64 (k : Int)] 3)))
          go_wp2_with (at_builtin; refine wpList_app rfl (.tmp 51) (.tmp 53) _ rfl w1.heap.size 3 (.int .i64 0) 1 8 Try.underlying39 infoInt rfl (by omega) (by omega) (.slice A' k c') _ _ rfl (HO.out.alloc _) wo.heap.size [vInt (k : Int)] rfl rfl (news_new _ _ _) (one_int _ _) (by omega) (by simp; omega) ?_; intro g1 cap1 w5 hg1 hown1 hgrow1 hor1)
          go_roundw
          case rel =>
            refine ⟨k + 1, _, cap1, by omega, by go_num, rfl, ?_, ?_, ?_, ?_⟩
            · exact pil_keep HPA.out (KeepB.grown (S := fun r => some r = (Value.slice A' k c').ownBlock) hgrow1 (fun r hr => hr)) (fun r hr => HN.out r hr.symm)
            · show World.ownsRow _ _ _ _ _ _ _
              rw [lineN_succ, List.map_append]; exact hown1
            · intro r hr hb
              obtain rfl : g1 = r := by injection hr
              rcases hor1 with e | e
              · exact HN.out g1 e.symm hb
              · have := pil_lt HP.out hb
                simp at e
                omega
            · show Below _ _ _
              exact (HBW.out.alloc hzo (.cells #[.int .i64 (k : Int)] 3)).grown hgrow1 (by simp; omega) (fun k hk => (HO.out.lt k hk).1)
          case measure => first | (simp [intOf]; done) | (simp [intOf]; omega)
        · obtain rfl : k = T := by omega
          have jk : ¬ (k : Int) < (k : Int) := by omega
          obtain ⟨u0, hu0⟩ := get_of_lt (l := (lineN k).map vInt) (k := 0) (by rw [List.length_map, lineN_len]; exact hT0)
          obtain ⟨lb, rfl, hlb, hlb2, _⟩ := own_at HO.out hu0
          have hlN : ¬ blkV g [S3, M3, V3, L3, X3, P3] lb := HN.out lb rfl
          have HLO := HO
          have HLP := HP
          have HLB := HBW
          clear hu0 HN HP HO HBW
          as_aux_lemma =>
          go_wp2
          go_loopw [9, 11, 12, 13] (fun wv cv pv iv wr => ∃ (i m : Nat) (Wa : Option Addr) (wc : Nat) (S M V L X P : Value), i ≤ n2 ∧ iv = .int .i64 (i : Int) ∧ wv = .slice Wa m wc ∧ cv = .int .i64 ((zRun z0 sl i).xs.length : Int) ∧ pv = .int .i64 ((zRun z0 sl i).ps.length : Int) ∧ Hid (PilH wr w1.heap.size g p b (zRun z0 sl i) S M V L X P) ∧ Hid (wr.ownsRow w1.heap.size 3 1 (.slice (some ⟨lb, 0, none⟩) k c') k ((zRun z0 sl i).l.map vInt)) ∧ Hid (wr.ownsRow w1.heap.size 3 1 wv m ((wordL (lineN k) (zRun z0 sl i).xs).map vInt)) ∧ Hid (m = (zRun z0 sl i).xs.length) ∧ Hid (¬ blkV g [S, M, V, L, X, P] lb ∧ ∀ r, wv.ownBlock = some r → r ≠ lb ∧ ¬ blkV g [S, M, V, L, X, P] r) ∧ Hid (crOk (lineN k) (zRun z0 sl i).xs ∧ (zRun z0 sl i).l = (zRun z0 sl i).xs.foldl crLine (lineN k)) ∧ Hid (Below w1.heap.size w1 wr)) (fun _ _ _ iv _ => n2 - (intOf iv).toNat)
          case atStart =>
            obtain ⟨x1, x2, _⟩ := HZX.out
            refine ⟨0, 0, none, 0, S3, M3, V3, L3, X3, P3, Nat.zero_le _, rfl, rfl, ?_, ?_, HLP, ?_, ?_, ?_, ?_, ?_, HLB⟩
            · show _ = Value.int .i64 ((z0.xs.length : Nat) : Int)
              rw [x1]; rfl
            · show _ = Value.int .i64 ((z0.ps.length : Nat) : Int)
              rw [x2]; rfl
            · show World.ownsRow _ _ _ _ _ _ (z0.l.map vInt)
              rw [HZL.out]; exact HLO.out
            · show World.ownsRow _ _ _ _ _ _ ((wordL (lineN k) z0.xs).map vInt)
              rw [x1]; exact World.ownsRow_nil _ _ _ _
            · show 0 = z0.xs.length
              rw [x1]; rfl
            · exact ⟨hlN, fun r hr => by cases hr⟩
            · show crOk (lineN k) z0.xs ∧ z0.l = z0.xs.foldl crLine (lineN k)
              rw [x1]; exact ⟨trivial, HZL.out⟩
          case round =>
            clear HLO HLP HLB hlN
            as_aux_lemma =>
            obtain ⟨i, m, Wa, wc, S, M, V, L, X, P, hi, rfl, rfl, rfl, rfl, HP, HLO, HWO, HWL, HN, HCR, HBW⟩ := hrel
            obtain ⟨wo, rfl⟩ : ∃ wo : World, wo = wr := ⟨_, rfl⟩
            obtain ⟨zl, zs, zm, zw, zx, zp⟩ := HZ0.out
            obtain ⟨y1, y2, y3, y4, y5, y6⟩ := HZ.out i (by rw [L2.out]; exact hi)
            by_cases hlt : i < n2
            · have jk : (i : Int) < (n2 : Int) := by omega
              obtain ⟨x, hx⟩ := get_of_lt (l := sl) (k := i) (by rw [L2.out]; exact hlt)
              obtain ⟨be, o, hA, hbe, c0, c1, c2'⟩ := (R2.out.up HBW.out) i x hx
              subst hA
              have hxw := HWD.out x (mem_of_get hx)
              have HE := Lib.hid (HGO2.out i x hx)
              have CD := Lib.hid (doC w1.heap.size g p b (zRun z0 sl i) S M V L X P x wo HP.out (by omega) (by omega) (by omega) (by omega) (by omega) (by omega) (by omega) HE.out)
              have HS := Lib.hid (zRun_succ z0 hx)
              have HGR := Lib.hid (step_grew HE.out (by omega))
              obtain ⟨v1, v2, v3, v4, v5, v6⟩ := HZ.out (i + 1) (by rw [L2.out]; exact hlt)
              have hlen6 : (zRun z0 sl i).l.length = k := by omega
              clear hx
              as_aux_lemma =>
              go_wp2_with fail
              refine CD.out.mono ?_
              rintro e w4 ⟨rfl, ⟨S4, M4, V4, L4, X4, P4, h4, gg4⟩, hb4⟩
              have hz4 := gg4.keep.size
              have H4 : Hid (PilH w4 w1.heap.size g p b (zRun z0 sl (i + 1)) S4 M4 V4 L4 X4 P4) := by rw [HS.out]; exact h4
              have B4 := Lib.hid (HBW.out.trans hb4)
              have LO4 := Lib.hid (gg4.own HLO.out (fun r hr => by obtain rfl : lb = r := by injection hr
                                                                   exact HN.out.1))
              have WO4 := Lib.hid (gg4.own HWO.out (fun r hr => (HN.out.2 r hr).2))
              have HN4 : Hid (¬ blkV g [S4, M4, V4, L4, X4, P4] lb ∧ ∀ r, (Value.slice Wa m wc).ownBlock = some r → r ≠ lb ∧ ¬ blkV g [S4, M4, V4, L4, X4, P4] r) := by
                refine ⟨fun e => ?_, fun r hr => ⟨(HN.out.2 r hr).1, fun e => ?_⟩⟩
                · rcases gg4.fresh lb e with e | e
                  · exact HN.out.1 e
                  · have := (HLO.out.lt lb rfl).2; omega
                · rcases gg4.fresh r e with e | e
                  · exact (HN.out.2 r hr).2 e
                  · have := (HWO.out.lt r hr).2; omega
              have HWA4 := Lib.hid (fun r (hr : (Value.slice Wa m wc).ownBlock = some r) => (WO4.out.lt r hr).2)
              have hlb4 := (LO4.out.lt lb rfl).2
              have CL := Lib.hid (clothCO w1.heap.size g p b (zRun z0 sl (i + 1)) S4 M4 V4 L4 X4 P4 w4 H4.out (by omega) (by omega) (by omega))
              clear h4 gg4 hb4 hz4 CD HP HLO HWO HN HBW c0 c1 c2'
              as_aux_lemma =>
              go_wp2_with fail
              refine CL.out.mono ?_
              rintro e w5 ⟨CA, cn, cc, DA, dn, dc, rfl, rX, rP, lX, lP, hb5⟩
              have H5 := Lib.hid (RowsH.below H4.out hb5)
              have B5 := Lib.hid (B4.out.trans (hb5.mono B4.out.size))
              have LO5 := Lib.hid (own_below LO4.out hb5)
              have WO5 := Lib.hid (own_below WO4.out hb5)
              have RX5 := Lib.hid rX
              have RP5 := Lib.hid rP
              have LX5 := Lib.hid lX
              have LP5 := Lib.hid lP
              have zw5 := B5.out.size
              have zw45 := hb5.size
              have HBC := Lib.hid ((Below.refl w5.heap.size w5).alloc (Nat.le_refl _) (.cells #[.int .i64 (2 * p), .slice CA cn cc, .slice DA dn dc] 43))
              have KC := Lib.hid (Has.new (w := w5) (t := 43) (cs := [.int .i64 (2 * p), .slice CA cn cc, .slice DA dn dc]) rfl)
              clear hb5 rX rP lX lP CL H4 B4 LO4 WO4
              as_aux_lemma =>
              go_wp2_with (at_builtin; (refine wpList_appI rfl (.tmp 70) (.tmp 71) rfl (w5.heap.size + 1) (.slice (some ⟨w5.heap.size + 1, 0, none⟩) 0 0) 0 [] rfl (by have h9 := own_lit0 (w := w5.alloc (.cells #[.int .i64 (2 * p), .slice CA cn cc, .slice DA dn dc] 43)) (base := w5.heap.size + 1) (e := 3) (size := 1) (by simp); rw [World.size_alloc] at h9; exact h9) (some ⟨lb, 0, none⟩) k c' (zRun z0 sl i).l rfl (Rd1.up (own_rd1 LO5.out) (by go_grown)) hlen6 (by omega) (by simp) ?_); intro A6 c6 w6 hown6 hgrow6)
              obtain ⟨new, pn, f, HGW⟩ := HGR.out
              rw [← HS.out] at HGW
              have gxs := HGW.xs
              have gln : cn = (zRun z0 sl i).xs.length + new.length := by rw [← LX5.out, gxs, List.length_append]
              have HG6 := Lib.hid HGW
              have hnb : cn ≤ 6000 := by have := LX5.out; omega
              have HGX := Lib.hid gxs
              obtain ⟨V5, hV5⟩ : ∃ V5, V5 = w5.alloc (.cells #[.int .i64 (2 * p), .slice CA cn cc, .slice DA dn dc] 43) := ⟨_, rfl⟩
              have zV5 : V5.heap.size = w5.heap.size + 1 := by rw [hV5]; simp
              rw [← hV5] at HBC KC hgrow6
              rw [Nat.zero_add, List.nil_append, ← zV5] at hown6
              have B56 := Lib.hid ((((Below.refl V5.heap.size V5).alloc (Nat.le_refl _) (.cells #[] 3)).grown hgrow6 (by simp) (fun r hr => by have hr2 : w5.heap.size + 1 = r := Option.some.inj hr; omega)).alloc (show V5.heap.size ≤ w6.heap.size from Nat.le_trans (by simp) hgrow6.size) (.cells #[.slice A6 k c6] 39))
              have z56 : V5.heap.size ≤ w6.heap.size := Nat.le_trans (by simp) hgrow6.size
              have L6 : Hid (St3 V5 (w6.alloc (.cells #[.slice A6 k c6] 39)) w1.heap.size k lb c' (.slice Wa m wc) (.slice Wa m wc) (.slice (some ⟨w6.heap.size, 0, none⟩) 1 1) (zRun z0 sl i).l (wordL (lineN k) (zRun z0 sl i).xs) [.slice A6 k c6] [(zRun z0 sl i).l]) := by
                show St3 _ _ _ _ _ _ _ _ _ _ _ _ _
                refine ⟨own_below (own_below LO5.out HBC.out) B56.out, ?_, fun r hr => ⟨(HN4.out.2 r hr).1, .inl hr⟩, own_lit1 _ z56, ?_, KeepB.of_below B56.out, ?_⟩
                · rw [wordL_len, ← HWL.out]
                  exact own_below (own_below WO5.out HBC.out) B56.out
                · refine (Moms.nil _ _ _ _).push hlen6 (own_below hown6 ((Below.refl w6.heap.size w6).alloc (Nat.le_refl _) _)) (fun r hr => ?_)
                  have h1 := (hown6.lt r hr).1
                  have h2 := (LO5.out.lt lb rfl).2
                  refine ⟨by omega, fun e => ?_⟩
                  have h3 := (WO5.out.lt r e).2
                  omega
                · have h2 := (LO5.out.lt lb rfl).2
                  omega
              have L60 : Hid (St3 V5 (w6.alloc (.cells #[.slice A6 k c6] 39)) w1.heap.size k lb c' (.slice Wa m wc) (.slice Wa m wc) (.slice (some ⟨w6.heap.size, 0, none⟩) 1 1) ((new.take 0).foldl crLine (zRun z0 sl i).l) (wordL (lineN k) ((zRun z0 sl i).xs ++ new.take 0)) [.slice A6 k c6] (momL (zRun z0 sl i).l (new.take 0))) := by
                rw [List.take_zero, List.append_nil]
                exact L6
              have GLN := Lib.hid gln
              have HWB := Lib.hid (fun r (hr : (Value.slice Wa m wc).ownBlock = some r) => (WO5.out.lt r hr).1)
              have ZV5 := Lib.hid zV5
              have gln2 : (zRun z0 sl i).xs.length + new.length ≤ cn ∧ cn ≤ (zRun z0 sl i).xs.length + new.length := by omega
              clear hown6 hgrow6 hV5 HGW gxs LO5 WO5 gln zV5
              as_aux_lemma =>
              go_loopw [9, 15, 16] (fun wv mv kv wr => ∃ (j J m2 mn : Nat) (W2 : Option Addr) (wc2 : Nat) (MA : Option Addr) (mc : Nat) (vs : List Value), j ≤ new.length ∧ wv = .slice W2 m2 wc2 ∧ mv = .slice MA mn mc ∧ kv = .int .i64 (J : Int) ∧ Hid (J = (zRun z0 sl i).xs.length + j) ∧ Hid (m2 = J) ∧ Hid (mn = j + 1) ∧ Hid (St3 V5 wr w1.heap.size k lb c' (.slice Wa m wc) wv mv ((new.take j).foldl crLine (zRun z0 sl i).l) (wordL (lineN k) ((zRun z0 sl i).xs ++ new.take j)) vs (momL (zRun z0 sl i).l (new.take j)))) (fun _ _ kv _ => cn - (intOf kv).toNat)
              case atStart => exact ⟨0, (zRun z0 sl i).xs.length, m, 1, Wa, wc, some ⟨w6.heap.size, 0, none⟩, 1, [.slice A6 k c6], Nat.zero_le _, rfl, rfl, rfl, Lib.hid (Nat.add_zero _).symm, HWL, Lib.hid (Nat.zero_add 1).symm, L60⟩
              case round =>
                clear L6 L60 B56
                as_aux_lemma =>
                obtain ⟨j, J, m2, mn, W2, wc2, MA, mc, vs, hj, rfl, rfl, rfl, HJ, HM2, HMN, HL3⟩ := hrel
                obtain ⟨wo, rfl⟩ : ∃ wo : World, wo = wr := ⟨_, rfl⟩
                have hsz := HL3.out.keep.size
                have zV5 := ZV5.out
                have hnW : ¬ (w5.heap.size = lb ∨ (Value.slice Wa m wc).ownBlock = some w5.heap.size) := by
                  rintro (e | e)
                  · omega
                  · have := HWA4.out _ e; omega
                have hKC := Lib.hid (HL3.out.keep.has KC.out hnW)
                have s1 : wo.cell? ⟨w5.heap.size, 1, none⟩ = some (.slice CA cn cc) := hKC.out.cell 1
                have s2 : wo.cell? ⟨w5.heap.size, 2, none⟩ = some (.slice DA dn dc) := hKC.out.cell 2
                have sq := hKC.out.lt
                by_cases hlt : j < new.length
                · have hJc : J < cn := by have := HJ.out; omega
                  have hJb : J ≤ 6000 := by omega
                  have jk : (J : Int) < (cn : Int) := by omega
                  obtain ⟨q, hq⟩ := get_of_lt hlt
                  have hqx : (zRun z0 sl (i + 1)).xs[J]? = some q := by
                    have hJ := HJ.out
                    rw [HGX.out, List.getElem?_append_right (by omega), show J - (zRun z0 sl i).xs.length = j by omega]
                    exact hq
                  have RXk : wo.ownsRow (w4.heap.size + 1) 47 4 (.slice CA cn cc) cn (qsC (zRun z0 sl (i + 1)).xs) := HL3.out.keep.own (own_below RX5.out HBC.out) (fun r hr => by
                    have h1 := (RX5.out.lt r hr).1
                    rintro (e | e)
                    · omega
                    · have := HWA4.out _ e; omega)
                  obtain ⟨bx, ox, hCA, hbx, d0, d1, d2, d3⟩ := own_rdQ RXk J q hqx
                  obtain ⟨t, la, lb2, hqb, ht, hla, hlb', hcd⟩ := crOk_get new _ HG6.out.ok j q hq
                  have hTL : ((new.take j).foldl crLine (zRun z0 sl i).l).length = k := by rw [foldl_cr_len, hlen6]
                  rw [hTL] at ht
                  have HBD := fold_bnd (n := k) (new.take j) (zRun z0 sl i).l (crOk_take HG6.out.ok j) (by rw [HCR.out.2]; exact fold_bnd _ _ HCR.out.1 (lineN_bnd k))
                  have hba := HBD la (mem_of_get hla)
                  have hbb := HBD lb2 (mem_of_get hlb')
                  obtain ⟨gl, e1, _, hgl, x0⟩ := own_at HL3.out.line (j := t) (u := vInt la) (by rw [List.getElem?_map, hla]; rfl)
                  obtain ⟨gl2, e2, _, _, x1⟩ := own_at HL3.out.line (j := t + 1) (u := vInt lb2) (by rw [List.getElem?_map, hlb']; rfl)
                  injection e1 with e1
                  injection e1 with e1
                  injection e2 with e2
                  injection e2 with e2
                  subst e1 e2
                  subst hCA
                  have HST := Lib.hid (show (new.take (j + 1)).foldl crLine (zRun z0 sl i).l = (((new.take j).foldl crLine (zRun z0 sl i).l).set t lb2).set (t + 1) la by
                    rw [List.take_add_one, hq]
                    show (new.take j ++ [q]).foldl crLine _ = _
                    rw [List.foldl_append]
                    exact crLine_at hqb hla hlb')
                  have HMO := Lib.hid (show momL (zRun z0 sl i).l (new.take (j + 1)) = momL (zRun z0 sl i).l (new.take j) ++ [(new.take (j + 1)).foldl crLine (zRun z0 sl i).l] by
                    rw [List.take_add_one, hq]
                    show momL _ (new.take j ++ [q]) = _ ++ [(new.take j ++ [q]).foldl crLine _]
                    rw [momL_app, List.foldl_append]; rfl)
                  have HWO := Lib.hid (show wordL (lineN k) ((zRun z0 sl i).xs ++ new.take (j + 1)) = wordL (lineN k) ((zRun z0 sl i).xs ++ new.take j) ++ [letQ ((new.take j).foldl crLine (zRun z0 sl i).l) q] by
                    rw [List.take_add_one, hq]
                    show wordL _ (_ ++ (new.take j ++ [q])) = _
                    rw [← List.append_assoc, wordL_app, List.foldl_append, ← HCR.out.2])
                  have HLA := Lib.hid (And.intro hla hlb')
                  have hlq : letQ ((new.take j).foldl crLine (zRun z0 sl i).l) q = if q.c = la then q.b + 1 else -q.b - 1 := by
                    unfold letQ
                    rw [hqb, Int.toNat_natCast, List.getD_eq_getElem?_getD, hla]; rfl
                  have HLQ := Lib.hid hlq
                  have HTL := Lib.hid (show ((new.take (j + 1)).foldl crLine (zRun z0 sl i).l).length = k by rw [foldl_cr_len, hlen6])
                  have HWN := Lib.hid (show (wordL (lineN k) ((zRun z0 sl i).xs ++ new.take j)).length = m2 by rw [HM2.out, HJ.out, wordL_len, List.length_append, List.length_take]; omega)
                  have HMM := Lib.hid (show (momL (zRun z0 sl i).l (new.take j)).length = mn by rw [HMN.out, momL_len, List.length_take]; omega)
                  have hmnb : mn ≤ 6001 := by rw [HMN.out]; omega
                  have hm2b : m2 ≤ 6000 := by rw [HM2.out]; omega
                  obtain ⟨qa, qb, qc, qd⟩ := q
                  simp only [] at d0 d1 d2 d3 hqb hcd HLQ
                  subst hqb
                  have i2 : IntKind.i64.wrap ((t : Int) + 1) = (t : Int) + 1 := IntWalk.i64_in _ (by omega)
                  have i3 : IntKind.i64.wrap (la + lb2) = la + lb2 := IntWalk.i64_in _ (by omega)
                  have i4 : IntKind.i64.wrap (lb2 + la) = la + lb2 := by rw [IntWalk.i64_in _ (by omega)]; omega
                  have i5 : IntKind.i64.wrap (-(t : Int)) = -(t : Int) := IntWalk.i64_in _ (by omega)
                  have i6 : IntKind.i64.wrap (-(t : Int) - 1) = -(t : Int) - 1 := IntWalk.i64_in _ (by omega)
                  have g1 : decide ((t : Int) < 0) = false := decide_eq_false (by omega)
                  have g2 : decide ((k : Int) ≤ (t : Int) + 1) = false := decide_eq_false (by omega)
                  have g3 : ((la + lb2) != (la + lb2)) = false := by simp
                  have j2 : (t : Int) < (k : Int) := by omega
                  have j3 : (t : Int) + 1 < (k : Int) := by omega
                  have j4 : (0 : Int) ≤ (t : Int) + 1 := by omega
                  have j5 : ((t : Int) + 1).toNat = t + 1 := by omega
                  have hlen3 := HL3.out.line
                  have fz := fun jj => hlen3.frozenAt jj
                  have f0 := fz t
                  have f1 := fz (t + 1)
                  clear zV5 hlen3 fz HBD RXk hq hqx hla hlb' hlq hTL hnW
                  as_aux_lemma =>
                  by_cases hc : qc = la
                  · have hd : qd = lb2 := by rcases hcd with ⟨_, e⟩ | ⟨e1, e2⟩ <;> omega
                    have HLE : Hid (letQ ((new.take j).foldl crLine (zRun z0 sl i).l) ⟨qa, (t : Int), qc, qd⟩ = (t : Int) + 1) := by
                      show _ = _
                      rw [HLQ.out, if_pos hc]
                    rw [hc] at d2
                    rw [hd] at d3
                    have p1 : (la != la) = false := by simp
                    have p2 : (la == la) = true := by simp
                    have p3 : (lb2 != lb2) = false := by simp
                    clear hcd HLQ hd hc
                    as_aux_lemma =>
                    have L30 := Lib.hid (HL3.out.below ((Below.refl _ wo).alloc (Nat.le_refl _) (.cells #[.int .i64 qa, .int .i64 (t : Int), .int .i64 la, .int .i64 lb2] 47)))
                    have K17 : Has (wo.alloc (.cells #[.int .i64 qa, .int .i64 (t : Int), .int .i64 la, .int .i64 lb2] 47)) wo.heap.size 47 [.int .i64 qa, .int .i64 (t : Int), .int .i64 la, .int .i64 lb2] := Has.new rfl
                    have HW17 := Lib.hid (fun r (hr : (Value.slice W2 m2 wc2).ownBlock = some r) => (HL3.out.word.lt r hr).2)
                    have hlbo := (HL3.out.line.lt lb rfl).2
                    go_wp2
                    go_big_quiet (fail)
                    as_aux_lemma =>
                    revert nq
                    intro nq1
                    go_wp2
                    go_big_quiet (fail)
                    as_aux_lemma =>
                    revert nq
                    intro nq2
                    obtain ⟨wb, hwb⟩ : ∃ wb, wb = ((wo.alloc (.cells #[.int .i64 qa, .int .i64 (t : Int), .int .i64 la, .int .i64 lb2] 47)).drewN nq1).drewN nq2 := ⟨_, rfl⟩
                    rewrite [← hwb]
                    have Lb : Hid (St3 V5 wb w1.heap.size k lb c' (.slice Wa m wc) (.slice W2 m2 wc2) (.slice MA mn mc) ((new.take j).foldl crLine (zRun z0 sl i).l) (wordL (lineN k) ((zRun z0 sl i).xs ++ new.take j)) vs (momL (zRun z0 sl i).l (new.take j))) := by
                      rw [hwb]
                      exact (L30.out.below (below_drewN (Below.refl _ _) nq1)).below (below_drewN (Below.refl _ _) nq2)
                    have Kb : Hid (Has wb wo.heap.size 47 [.int .i64 qa, .int .i64 (t : Int), .int .i64 la, .int .i64 lb2]) := by
                      rw [hwb]
                      exact (K17.drewN nq1).drewN nq2
                    have zb : wo.heap.size < wb.heap.size := Kb.out.lt
                    have HBb : Hid (Below wo.heap.size wo wb) := by
                      rw [hwb]
                      exact below_drewN (below_drewN ((Below.refl _ wo).alloc (Nat.le_refl _) _) nq1) nq2
                    have b1 : wb.cell? ⟨wo.heap.size, 1, none⟩ = some (.int .i64 (t : Int)) := Kb.out.cell 1
                    have Wb := Lib.hid (own_below Lb.out.word ((Below.refl _ wb).alloc (Nat.le_refl _) (.cells #[.int .i64 ((t : Int) + 1)] 3)))
                    rw [HWN.out] at Wb
                    have zbw : w1.heap.size ≤ wb.heap.size := by have := (HL3.out.line.lt lb rfl).1; omega
                    clear hwb L30 K17 HL3 x0 x1 f0 f1
                    as_aux_lemma =>
                    go_wp2_with (at_builtin; refine wpList_app rfl (.tmp 146) (.tmp 150) _ rfl w1.heap.size 3 (.int .i64 0) 1 8 Try.underlying39 infoInt rfl (by omega) (by omega) (.slice W2 m2 wc2) _ _ rfl Wb.out wb.heap.size [vInt ((t : Int) + 1)] rfl rfl (news_new _ _ _) (one_int _ _) (by omega) (by simp; omega) ?_; intro g1 cap1 w7 hg1 hown1 hgrow1 hor1)
                    have L7 : Hid (St3 V5 w7 w1.heap.size k lb c' (.slice Wa m wc) (.slice (some ⟨g1, 0, none⟩) (m2 + 1) cap1) (.slice MA mn mc) ((new.take j).foldl crLine (zRun z0 sl i).l) (wordL (lineN k) ((zRun z0 sl i).xs ++ new.take (j + 1))) vs (momL (zRun z0 sl i).l (new.take j))) := by
                      refine (Lb.out.below ((Below.refl _ wb).alloc (Nat.le_refl _) (.cells #[.int .i64 ((t : Int) + 1)] 3))).grown hgrow1 ?_ ?_
                      · rw [HWO.out, HLE.out, List.length_append, HWN.out, List.map_append]
                        exact hown1
                      · rcases hor1 with e | e
                        · exact .inl e
                        · exact .inr (by rw [e]; rfl)
                    have K7 : Hid (Has w7 wo.heap.size 47 [.int .i64 qa, .int .i64 (t : Int), .int .i64 la, .int .i64 lb2]) := by
                      refine (Kb.out.alloc (.cells #[.int .i64 ((t : Int) + 1)] 3)).same (hgrow1.block _ (by have := (Kb.out.alloc (.cells #[.int .i64 ((t : Int) + 1)] 3)).lt; exact this) (fun e => ?_))
                      have := HW17.out _ e.symm
                      omega
                    have HW7 : Hid (m2 + 1 = (wordL (lineN k) ((zRun z0 sl i).xs ++ new.take (j + 1))).length) := by
                      show _ = _
                      rw [HWO.out, List.length_append, HWN.out]; rfl
                    have z7 : wb.heap.size < w7.heap.size := Nat.lt_of_lt_of_le (by simp) hgrow1.size
                    have q7 := K7.out.lt
                    have b1' : w7.cell? ⟨wo.heap.size, 1, none⟩ = some (.int .i64 (t : Int)) := K7.out.cell 1
                    obtain ⟨gl, e1, _, hgl, x0⟩ := own_at L7.out.line (j := t) (u := vInt la) (by rw [List.getElem?_map, HLA.out.1]; rfl)
                    obtain ⟨gl2, e2, _, _, x1⟩ := own_at L7.out.line (j := t + 1) (u := vInt lb2) (by rw [List.getElem?_map, HLA.out.2]; rfl)
                    injection e1 with e1
                    injection e1 with e1
                    injection e2 with e2
                    injection e2 with e2
                    subst e1 e2
                    have f0 := L7.out.line.frozenAt t
                    have f1 := L7.out.line.frozenAt (t + 1)
                    have L9 : Hid (St3 V5 (((w7.setCell ⟨lb, t, none⟩ (.int .i64 lb2)).setCell ⟨lb, t + 1, none⟩ (.int .i64 la)).drew) w1.heap.size k lb c' (.slice Wa m wc) (.slice (some ⟨g1, 0, none⟩) (m2 + 1) cap1) (.slice MA mn mc) ((new.take (j + 1)).foldl crLine (zRun z0 sl i).l) (wordL (lineN k) ((zRun z0 sl i).xs ++ new.take (j + 1))) vs (momL (zRun z0 sl i).l (new.take j))) := by
                      show St3 _ _ _ _ _ _ _ _ _ _ _ _ _
                      rw [HST.out]
                      exact ((L7.out.store t lb2).store (t + 1) la).drew
                    clear hown1 hgrow1 hor1 Lb Kb Wb b1 HBb L7 hg1
                    as_aux_lemma =>
                    go_wp2
                    go_region
                    obtain ⟨wq9, hq9⟩ : ∃ wq9, wq9 = ((w7.setCell ⟨lb, t, none⟩ (.int .i64 lb2)).setCell ⟨lb, t + 1, none⟩ (.int .i64 la)).drew := ⟨_, rfl⟩
                    rw [← hq9] at L9
                    rewrite [← hq9]
                    have zc : V5.heap.size ≤ wq9.heap.size := L9.out.keep.size
                    have zb7 : wb.heap.size < wq9.heap.size := by rw [hq9]; show wb.heap.size < ((w7.setCell _ _).setCell _ _).heap.size; simp [World.setCell]; exact z7
                    have O9 := Lib.hid (show (wq9.alloc (.cells #[] 3)).ownsRow wq9.heap.size 3 1 (.slice (some ⟨wq9.heap.size, 0, none⟩) 0 0) 0 (([] : List Int).map vInt) from own_lit0 (Nat.le_refl _))
                    have RL9 := Lib.hid (Rd1.up (own_rd1 L9.out.line) (show Below wq9.heap.size wq9 (wq9.alloc (.cells #[] 3)) by go_grown))
                    have HW9 := Lib.hid (fun r (hr : (Value.slice (some ⟨g1, 0, none⟩) (m2 + 1) cap1).ownBlock = some r) => (L9.out.word.lt r hr).2)
                    have HLB9 := Lib.hid (L9.out.line.lt lb rfl).2
                    clear hq9 x0 x1 f0 f1 b1' K7
                    as_aux_lemma =>
                    go_wp2_with (first | (at_builtin; (refine wpList_appI rfl (.tmp 180) (.tmp 181) rfl wq9.heap.size (.slice (some ⟨wq9.heap.size, 0, none⟩) 0 0) 0 [] rfl O9.out (some ⟨lb, 0, none⟩) k c' _ rfl RL9.out HTL.out (by omega) (by simp) ?_); intro A7 c7 w8 hown8 hgrow8; rw [Nat.zero_add, List.nil_append] at hown8; have B8 : Below wq9.heap.size wq9 w8 := ((Below.refl wq9.heap.size wq9).alloc (Nat.le_refl _) (.cells #[] 3)).grown hgrow8 (by simp) (fun r hr => by have hr2 : wq9.heap.size = r := Option.some.inj hr; omega); have L8 := Lib.hid (L9.out.below B8); have z8 := B8.size; have L8M := Lib.hid (own_below L8.out.mom ((Below.refl _ w8).alloc (Nat.le_refl _) (.cells #[.slice A7 k c7] 39))); rw [HMM.out] at L8M; have O8 := Lib.hid hown8; clear hown8 hgrow8) | (at_builtin; refine wpList_app rfl (.tmp 179) (.tmp 183) _ rfl V5.heap.size 39 (.slice none 0 0) 1 24 Try.underlying45 infoIm rfl (by omega) (by omega) (.slice MA mn mc) _ _ rfl L8M.out w8.heap.size [.slice A7 k c7] rfl rfl (news_new _ _ _) (fun u hu => by simp at hu; subst hu; rfl) (by omega) (by simp; omega) ?_; intro g2 cap2 w9 hg2 hown2 hgrow2 hor2))
                    go_roundw
                    case rel =>
                      refine ⟨j + 1, J + 1, m2 + 1, mn + 1, some ⟨g1, 0, none⟩, cap1, some ⟨g2, 0, none⟩, cap2, vs ++ [.slice A7 k c7], by omega, rfl, rfl, by go_num, ?_, ?_, ?_, ?_⟩
                      · show _ = _
                        rw [HJ.out, Nat.add_assoc]
                      · show _ = _
                        rw [HM2.out]
                      · show _ = _
                        rw [HMN.out]
                      · have h9 := L8.out.below ((Below.refl _ w8).alloc (Nat.le_refl _) (.cells #[.slice A7 k c7] 39))
                        show St3 _ _ _ _ _ _ _ _ _ _ _ _ _
                        rw [HMO.out]
                        refine h9.push hgrow2 HTL.out (own_low (own_below O8.out ((Below.refl _ w8).alloc (Nat.le_refl _) _)) zc) (fun r hr => ?_) (by rw [HMM.out]; exact hown2)
                        have h1 := (O8.out.lt r hr).1
                        have h2 := HLB9.out
                        refine ⟨by omega, fun e => ?_⟩
                        have h3 := HW9.out r e
                        omega
                    case measure => first | (simp [intOf]; done) | (simp [intOf]; omega)
                  · have hd : qc = lb2 ∧ qd = la := by
                      rcases hcd with ⟨e, _⟩ | e
                      · exact absurd e hc
                      · exact e
                    have HLE : Hid (letQ ((new.take j).foldl crLine (zRun z0 sl i).l) ⟨qa, (t : Int), qc, qd⟩ = -(t : Int) - 1) := by
                      show _ = _
                      rw [HLQ.out, if_neg hc]
                    rw [hd.1] at d2 hc
                    rw [hd.2] at d3
                    have p1 : (lb2 != la) = true := by simpa using hc
                    have p2 : (lb2 == la) = false := by simpa using hc
                    have p3 : (la != la) = false := by simp
                    clear hcd HLQ hd hc
                    as_aux_lemma =>
                    have L30 := Lib.hid (HL3.out.below ((Below.refl _ wo).alloc (Nat.le_refl _) (.cells #[.int .i64 qa, .int .i64 (t : Int), .int .i64 lb2, .int .i64 la] 47)))
                    have K17 : Has (wo.alloc (.cells #[.int .i64 qa, .int .i64 (t : Int), .int .i64 lb2, .int .i64 la] 47)) wo.heap.size 47 [.int .i64 qa, .int .i64 (t : Int), .int .i64 lb2, .int .i64 la] := Has.new rfl
                    have HW17 := Lib.hid (fun r (hr : (Value.slice W2 m2 wc2).ownBlock = some r) => (HL3.out.word.lt r hr).2)
                    have hlbo := (HL3.out.line.lt lb rfl).2
                    go_wp2
                    go_big_quiet (fail)
                    as_aux_lemma =>
                    revert nq
                    intro nq1
                    go_wp2
                    go_big_quiet (fail)
                    as_aux_lemma =>
                    revert nq
                    intro nq2
                    obtain ⟨wb, hwb⟩ : ∃ wb, wb = ((wo.alloc (.cells #[.int .i64 qa, .int .i64 (t : Int), .int .i64 lb2, .int .i64 la] 47)).drewN nq1).drewN nq2 := ⟨_, rfl⟩
                    rewrite [← hwb]
                    have Lb : Hid (St3 V5 wb w1.heap.size k lb c' (.slice Wa m wc) (.slice W2 m2 wc2) (.slice MA mn mc) ((new.take j).foldl crLine (zRun z0 sl i).l) (wordL (lineN k) ((zRun z0 sl i).xs ++ new.take j)) vs (momL (zRun z0 sl i).l (new.take j))) := by
                      rw [hwb]
                      exact (L30.out.below (below_drewN (Below.refl _ _) nq1)).below (below_drewN (Below.refl _ _) nq2)
                    have Kb : Hid (Has wb wo.heap.size 47 [.int .i64 qa, .int .i64 (t : Int), .int .i64 lb2, .int .i64 la]) := by
                      rw [hwb]
                      exact (K17.drewN nq1).drewN nq2
                    have zb : wo.heap.size < wb.heap.size := Kb.out.lt
                    have HBb : Hid (Below wo.heap.size wo wb) := by
                      rw [hwb]
                      exact below_drewN (below_drewN ((Below.refl _ wo).alloc (Nat.le_refl _) _) nq1) nq2
                    have b1 : wb.cell? ⟨wo.heap.size, 1, none⟩ = some (.int .i64 (t : Int)) := Kb.out.cell 1
                    have Wb := Lib.hid (own_below Lb.out.word ((Below.refl _ wb).alloc (Nat.le_refl _) (.cells #[.int .i64 (-(t : Int) - 1)] 3)))
                    rw [HWN.out] at Wb
                    have zbw : w1.heap.size ≤ wb.heap.size := by have := (HL3.out.line.lt lb rfl).1; omega
                    clear hwb L30 K17 HL3 x0 x1 f0 f1
                    as_aux_lemma =>
                    go_wp2_with (at_builtin; refine wpList_app rfl (.tmp 152) (.tmp 157) _ rfl w1.heap.size 3 (.int .i64 0) 1 8 Try.underlying39 infoInt rfl (by omega) (by omega) (.slice W2 m2 wc2) _ _ rfl Wb.out wb.heap.size [vInt (-(t : Int) - 1)] rfl rfl (news_new _ _ _) (one_int _ _) (by omega) (by simp; omega) ?_; intro g1 cap1 w7 hg1 hown1 hgrow1 hor1)
                    have L7 : Hid (St3 V5 w7 w1.heap.size k lb c' (.slice Wa m wc) (.slice (some ⟨g1, 0, none⟩) (m2 + 1) cap1) (.slice MA mn mc) ((new.take j).foldl crLine (zRun z0 sl i).l) (wordL (lineN k) ((zRun z0 sl i).xs ++ new.take (j + 1))) vs (momL (zRun z0 sl i).l (new.take j))) := by
                      refine (Lb.out.below ((Below.refl _ wb).alloc (Nat.le_refl _) (.cells #[.int .i64 (-(t : Int) - 1)] 3))).grown hgrow1 ?_ ?_
                      · rw [HWO.out, HLE.out, List.length_append, HWN.out, List.map_append]
                        exact hown1
                      · rcases hor1 with e | e
                        · exact .inl e
                        · exact .inr (by rw [e]; rfl)
                    have K7 : Hid (Has w7 wo.heap.size 47 [.int .i64 qa, .int .i64 (t : Int), .int .i64 lb2, .int .i64 la]) := by
                      refine (Kb.out.alloc (.cells #[.int .i64 (-(t : Int) - 1)] 3)).same (hgrow1.block _ (by have := (Kb.out.alloc (.cells #[.int .i64 (-(t : Int) - 1)] 3)).lt; exact this) (fun e => ?_))
                      have := HW17.out _ e.symm
                      omega
                    have HW7 : Hid (m2 + 1 = (wordL (lineN k) ((zRun z0 sl i).xs ++ new.take (j + 1))).length) := by
                      show _ = _
                      rw [HWO.out, List.length_append, HWN.out]; rfl
                    have z7 : wb.heap.size < w7.heap.size := Nat.lt_of_lt_of_le (by simp) hgrow1.size
                    have q7 := K7.out.lt
                    have b1' : w7.cell? ⟨wo.heap.size, 1, none⟩ = some (.int .i64 (t : Int)) := K7.out.cell 1
                    obtain ⟨gl, e1, _, hgl, x0⟩ := own_at L7.out.line (j := t) (u := vInt la) (by rw [List.getElem?_map, HLA.out.1]; rfl)
                    obtain ⟨gl2, e2, _, _, x1⟩ := own_at L7.out.line (j := t + 1) (u := vInt lb2) (by rw [List.getElem?_map, HLA.out.2]; rfl)
                    injection e1 with e1
                    injection e1 with e1
                    injection e2 with e2
                    injection e2 with e2
                    subst e1 e2
                    have f0 := L7.out.line.frozenAt t
                    have f1 := L7.out.line.frozenAt (t + 1)
                    have L9 : Hid (St3 V5 (((w7.setCell ⟨lb, t, none⟩ (.int .i64 lb2)).setCell ⟨lb, t + 1, none⟩ (.int .i64 la)).drew) w1.heap.size k lb c' (.slice Wa m wc) (.slice (some ⟨g1, 0, none⟩) (m2 + 1) cap1) (.slice MA mn mc) ((new.take (j + 1)).foldl crLine (zRun z0 sl i).l) (wordL (lineN k) ((zRun z0 sl i).xs ++ new.take (j + 1))) vs (momL (zRun z0 sl i).l (new.take j))) := by
                      show St3 _ _ _ _ _ _ _ _ _ _ _ _ _
                      rw [HST.out]
                      exact ((L7.out.store t lb2).store (t + 1) la).drew
                    clear hown1 hgrow1 hor1 Lb Kb Wb b1 HBb L7 hg1
                    as_aux_lemma =>
                    go_wp2
                    go_region
                    obtain ⟨wq9, hq9⟩ : ∃ wq9, wq9 = ((w7.setCell ⟨lb, t, none⟩ (.int .i64 lb2)).setCell ⟨lb, t + 1, none⟩ (.int .i64 la)).drew := ⟨_, rfl⟩
                    rw [← hq9] at L9
                    rewrite [← hq9]
                    have zc : V5.heap.size ≤ wq9.heap.size := L9.out.keep.size
                    have zb7 : wb.heap.size < wq9.heap.size := by rw [hq9]; show wb.heap.size < ((w7.setCell _ _).setCell _ _).heap.size; simp [World.setCell]; exact z7
                    have O9 := Lib.hid (show (wq9.alloc (.cells #[] 3)).ownsRow wq9.heap.size 3 1 (.slice (some ⟨wq9.heap.size, 0, none⟩) 0 0) 0 (([] : List Int).map vInt) from own_lit0 (Nat.le_refl _))
                    have RL9 := Lib.hid (Rd1.up (own_rd1 L9.out.line) (show Below wq9.heap.size wq9 (wq9.alloc (.cells #[] 3)) by go_grown))
                    have HW9 := Lib.hid (fun r (hr : (Value.slice (some ⟨g1, 0, none⟩) (m2 + 1) cap1).ownBlock = some r) => (L9.out.word.lt r hr).2)
                    have HLB9 := Lib.hid (L9.out.line.lt lb rfl).2
                    clear hq9 x0 x1 f0 f1 b1' K7
                    as_aux_lemma =>
                    go_wp2_with (first | (at_builtin; (refine wpList_appI rfl (.tmp 180) (.tmp 181) rfl wq9.heap.size (.slice (some ⟨wq9.heap.size, 0, none⟩) 0 0) 0 [] rfl O9.out (some ⟨lb, 0, none⟩) k c' _ rfl RL9.out HTL.out (by omega) (by simp) ?_); intro A7 c7 w8 hown8 hgrow8; rw [Nat.zero_add, List.nil_append] at hown8; have B8 : Below wq9.heap.size wq9 w8 := ((Below.refl wq9.heap.size wq9).alloc (Nat.le_refl _) (.cells #[] 3)).grown hgrow8 (by simp) (fun r hr => by have hr2 : wq9.heap.size = r := Option.some.inj hr; omega); have L8 := Lib.hid (L9.out.below B8); have z8 := B8.size; have L8M := Lib.hid (own_below L8.out.mom ((Below.refl _ w8).alloc (Nat.le_refl _) (.cells #[.slice A7 k c7] 39))); rw [HMM.out] at L8M; have O8 := Lib.hid hown8; clear hown8 hgrow8) | (at_builtin; refine wpList_app rfl (.tmp 179) (.tmp 183) _ rfl V5.heap.size 39 (.slice none 0 0) 1 24 Try.underlying45 infoIm rfl (by omega) (by omega) (.slice MA mn mc) _ _ rfl L8M.out w8.heap.size [.slice A7 k c7] rfl rfl (news_new _ _ _) (fun u hu => by simp at hu; subst hu; rfl) (by omega) (by simp; omega) ?_; intro g2 cap2 w9 hg2 hown2 hgrow2 hor2))
                    go_roundw
                    case rel =>
                      refine ⟨j + 1, J + 1, m2 + 1, mn + 1, some ⟨g1, 0, none⟩, cap1, some ⟨g2, 0, none⟩, cap2, vs ++ [.slice A7 k c7], by omega, rfl, rfl, by go_num, ?_, ?_, ?_, ?_⟩
                      · show _ = _
                        rw [HJ.out, Nat.add_assoc]
                      · show _ = _
                        rw [HM2.out]
                      · show _ = _
                        rw [HMN.out]
                      · have h9 := L8.out.below ((Below.refl _ w8).alloc (Nat.le_refl _) (.cells #[.slice A7 k c7] 39))
                        show St3 _ _ _ _ _ _ _ _ _ _ _ _ _
                        rw [HMO.out]
                        refine h9.push hgrow2 HTL.out (own_low (own_below O8.out ((Below.refl _ w8).alloc (Nat.le_refl _) _)) zc) (fun r hr => ?_) (by rw [HMM.out]; exact hown2)
                        have h1 := (O8.out.lt r hr).1
                        have h2 := HLB9.out
                        refine ⟨by omega, fun e => ?_⟩
                        have h3 := HW9.out r e
                        omega
                    case measure => first | (simp [intOf]; done) | (simp [intOf]; omega)
                · obtain rfl : j = new.length := by omega
                  have hJc : J = cn := by have := HJ.out; omega
                  have jk : ¬ (J : Int) < (cn : Int) := by omega
                  have HL9 : Hid (St3 V5 wo w1.heap.size k lb c' (.slice Wa m wc) (.slice W2 m2 wc2) (.slice MA mn mc) (zRun z0 sl (i + 1)).l (wordL (lineN k) (zRun z0 sl (i + 1)).xs) vs (momL (zRun z0 sl i).l new)) := by
                    have h := HL3.out
                    rw [List.take_length, ← HG6.out.l, ← HGX.out] at h
                    exact h
                  have hps := HG6.out.ps
                  have hdn : dn = (zRun z0 sl i).ps.length + pn.length := by rw [← LP5.out, List.length_map, hps, List.length_append]
                  have RPk : wo.ownsRow (w4.heap.size + 1) 56 4 (.slice DA dn dc) dn (qsC ((zRun z0 sl (i + 1)).ps.map Pn.q)) := HL3.out.keep.own (own_below RP5.out HBC.out) (fun r hr => by
                    have h1 := (RP5.out.lt r hr).1
                    rintro (e | e)
                    · omega
                    · have := HWA4.out _ e; omega)
                  have hdb : dn ≤ 6000 := by have := LP5.out; rw [List.length_map] at this; omega
                  have HPN := Lib.hid hps
                  have RPH := Lib.hid RPk
                  obtain ⟨q0, hq0⟩ : ∃ q0, q0 = (zRun z0 sl i).ps.length := ⟨_, rfl⟩
                  rw [← hq0] at hdn
                  rw [← hq0]
                  have HQ0 := Lib.hid hq0
                  have HDN := Lib.hid hdn
                  have c1 : q0 ≤ dn := by omega
                  have c2 : (q0 : Int) ≤ (dn : Int) := by omega
                  have c3 : min (q0 : Int) (dn : Int) = (q0 : Int) := Int.min_eq_left c2
                  have HPM : Hid (RdM wo wo.heap.size MA (momL (zRun z0 sl i).l new)) := by
                    have h := HL9.out.mom
                    rw [momL_len] at h
                    have hm := HMN.out
                    rw [← hm] at h
                    exact HL9.out.moms.rd h
                  have HST : Hid (StandH (pn.map Pn.q) (momL (zRun z0 sl i).l new) k f) := by
                    refine ⟨fun l hl => by rw [momL_all _ _ l hl]; exact hlen6, fun j q hj => ?_, HG6.out.up⟩
                    rw [List.getElem?_map] at hj
                    cases hp : pn[j]? with
                    | none => rw [hp] at hj; cases hj
                    | some u => rw [hp] at hj; injection hj with hj; subst hj; exact HG6.out.at_ j u hp
                  have CST := Lib.hid (fun (A' : Option Addr) (c2 : Nat) (hr : RdQ wo wo.heap.size A' (pn.map Pn.q)) => standOk A' (dn - q0) c2 MA mn mc (pn.map Pn.q) (momL (zRun z0 sl i).l new) k f wo hr (by rw [List.length_map]; omega) HPM.out (by rw [momL_len, HMN.out]) (by have := HMN.out; omega) hT48 HST.out (by omega))
                  have HRA : Hid (RdQ wo wo.heap.size (Option.map (fun x => x.add (q0 * 4)) DA) (pn.map Pn.q)) := by
                    have h := own_rdQ RPH.out
                    rw [HPN.out, List.map_append] at h
                    exact rdQ_drop h (by rw [List.length_map]; exact hq0.symm)
                  have HRB : Hid (dc = q0 → RdQ wo wo.heap.size DA (pn.map Pn.q)) := fun e => by
                    have h1 := (own_caps RPH.out).1
                    have h2 : pn = [] := List.eq_nil_of_length_eq_zero (by omega)
                    rw [h2]
                    intro k x hx
                    simp at hx
                  clear hps hdn RPk hq0 HL3 HJ HPM HST
                  as_aux_lemma =>
                  by_cases hdc : dc = q0
                  · have HRC := Lib.hid (HRB.out hdc)
                    subst hdc
                    go_wp2_with (fail)
                    refine (CST.out _ _ HRC.out).mono ?_
                    rintro e w8 ⟨rfl, hb8⟩
                    have L8 := Lib.hid (HL9.out.below hb8)
                    have K8 := Lib.hid (hKC.out.below hb8 hKC.out.lt)
                    have t1 : w8.cell? ⟨w5.heap.size, 1, none⟩ = some (.slice CA cn cc) := K8.out.cell 1
                    have t2 : w8.cell? ⟨w5.heap.size, 2, none⟩ = some (.slice DA dn dc) := K8.out.cell 2
                    have t0 := K8.out.lt
                    clear hb8 HL9 s1 s2 sq hKC CST HRA HRB
                    as_aux_lemma =>
                    go_wp2
                    go_big_quiet (fail)
                    as_aux_lemma =>
                    go_wp2
                    go_roundw
                    case rel =>
                      have h8 := L8.out.below (below_drewN (Below.refl _ w8) nq)
                      have h5 := H5.out
                      have hkk : ∀ r, (r = lb ∨ (Value.slice Wa m wc).ownBlock = some r) → w1.heap.size ≤ r := by
                        rintro r (e | e)
                        · rw [e]; exact hlb
                        · exact HWB.out r e
                      refine ⟨i + 1, m2, W2, wc2, S4, M4, V4, L4, X4, P4, by omega, by go_num, rfl, by rw [LX5.out], by rw [← LP5.out, List.length_map], ?_, ?_, ?_, ?_, ?_, ?_, ?_⟩
                      · refine pil_keep (RowsH.below h5 HBC.out) h8.keep ?_
                        rintro r (e | e)
                        · rw [e]; exact HN4.out.1
                        · exact (HN4.out.2 r e).2
                      · exact h8.line
                      · have h := h8.word
                        rw [wordL_len, LX5.out, ← hJc, ← HM2.out] at h
                        exact h
                      · show _ = _
                        rw [LX5.out, HM2.out, hJc]
                      · refine ⟨HN4.out.1, fun r hr => ⟨(h8.wne r hr).1, fun e => ?_⟩⟩
                        rcases (h8.wne r hr).2 with e2 | e2
                        · exact (HN4.out.2 r e2).2 e
                        · have := pil_lt h5 e
                          have := ZV5.out
                          omega
                      · show crOk _ _ ∧ _
                        rw [HGX.out, crOk_join, List.foldl_append, ← HCR.out.2]
                        exact ⟨⟨HCR.out.1, HG6.out.ok⟩, HG6.out.l⟩
                      · show Below _ _ _
                        have hv := B5.out.trans (HBC.out.mono zw5)
                        exact hv.trans (h8.keep.below hkk (by have := ZV5.out; omega))
                    case measure => first | (simp [intOf]; done) | (simp [intOf]; omega)
                  · have hdc2 : q0 < dc := by have := (own_caps RPH.out).1; omega
                    go_wp2_with (fail)
                    refine (CST.out _ _ HRA.out).mono ?_
                    rintro e w8 ⟨rfl, hb8⟩
                    have L8 := Lib.hid (HL9.out.below hb8)
                    have K8 := Lib.hid (hKC.out.below hb8 hKC.out.lt)
                    have t1 : w8.cell? ⟨w5.heap.size, 1, none⟩ = some (.slice CA cn cc) := K8.out.cell 1
                    have t2 : w8.cell? ⟨w5.heap.size, 2, none⟩ = some (.slice DA dn dc) := K8.out.cell 2
                    have t0 := K8.out.lt
                    clear hb8 HL9 s1 s2 sq hKC CST HRA HRB
                    as_aux_lemma =>
                    go_wp2
                    go_big_quiet (fail)
                    as_aux_lemma =>
                    go_wp2
                    go_roundw
                    case rel =>
                      have h8 := L8.out.below (below_drewN (Below.refl _ w8) nq)
                      have h5 := H5.out
                      have hkk : ∀ r, (r = lb ∨ (Value.slice Wa m wc).ownBlock = some r) → w1.heap.size ≤ r := by
                        rintro r (e | e)
                        · rw [e]; exact hlb
                        · exact HWB.out r e
                      refine ⟨i + 1, m2, W2, wc2, S4, M4, V4, L4, X4, P4, by omega, by go_num, rfl, by rw [LX5.out], by rw [← LP5.out, List.length_map], ?_, ?_, ?_, ?_, ?_, ?_, ?_⟩
                      · refine pil_keep (RowsH.below h5 HBC.out) h8.keep ?_
                        rintro r (e | e)
                        · rw [e]; exact HN4.out.1
                        · exact (HN4.out.2 r e).2
                      · exact h8.line
                      · have h := h8.word
                        rw [wordL_len, LX5.out, ← hJc, ← HM2.out] at h
                        exact h
                      · show _ = _
                        rw [LX5.out, HM2.out, hJc]
                      · refine ⟨HN4.out.1, fun r hr => ⟨(h8.wne r hr).1, fun e => ?_⟩⟩
                        rcases (h8.wne r hr).2 with e2 | e2
                        · exact (HN4.out.2 r e2).2 e
                        · have := pil_lt h5 e
                          have := ZV5.out
                          omega
                      · show crOk _ _ ∧ _
                        rw [HGX.out, crOk_join, List.foldl_append, ← HCR.out.2]
                        exact ⟨⟨HCR.out.1, HG6.out.ok⟩, HG6.out.l⟩
                      · show Below _ _ _
                        have hv := B5.out.trans (HBC.out.mono zw5)
                        exact hv.trans (h8.keep.below hkk (by have := ZV5.out; omega))
                    case measure => first | (simp [intOf]; done) | (simp [intOf]; omega)

            · obtain rfl : i = n2 := by omega
              have jk : ¬ (i : Int) < (i : Int) := by omega
              have hlk : (zRun z0 sl i).l.length = k := by omega
              have CL := Lib.hid (lineC w1.heap.size g p b (zRun z0 sl i) S M V L X P wo HP.out (by omega) (by omega))
              have HWL2 : Hid ((wordL (lineN k) (zRun z0 sl i).xs).length = m) := by show _ = _; rw [wordL_len, HWL.out]
              clear HFW y1 y2 y3 y4 y5 y6 zl zs zm zw zx zp
              as_aux_lemma =>
              go_wp2_with (fail)
              refine CL.out.mono ?_
              rintro e w4 ⟨A4, n4, c4, rfl, o4, l4, hb4⟩
              have LO4 := Lib.hid (own_below HLO.out hb4)
              have WO4 := Lib.hid (own_below HWO.out hb4)
              have B4 := Lib.hid (HBW.out.trans (hb4.mono HBW.out.size))
              have CI := Lib.hid (sameInts04 A4 (some ⟨lb, 0, none⟩) n4 k c4 c' _ _ w4 (by omega) (by omega) (own_rd1 o4) (own_rd1 LO4.out) l4 hlk)
              clear hb4 o4 CL
              as_aux_lemma =>
              go_wp2_with (fail)
              refine CI.out.mono ?_
              rintro e w5 ⟨rfl, hb5⟩
              have LO5 := Lib.hid (own_below LO4.out hb5)
              have WO5 := Lib.hid (own_below WO4.out hb5)
              have B5 := Lib.hid (B4.out.trans (hb5.mono B4.out.size))
              have e5 : ((zRun z0 sl i).l == (zRun z0 sl i).l) = true := by simp
              rw [e5]
              have hk0 := HBK.out w5 B5.out
              have a0 : w5.cell? ⟨w.heap.size, 0, none⟩ = some (.int .i64 p) := hk0.cell 0
              have q0 := hk0.lt
              have BF := Lib.hid (bvia (show Below w.heap.size w _ from B1.out) B5.out)
              clear hb5 hk0 LO4 WO4 B4 CI HLO HWO HP HBW e5
              as_aux_lemma =>
              by_cases h6 : 6 < p
              · have j6 : decide ((6 : Int) < p) = true := decide_eq_true h6
                go_wp2_with (fail)
                refine (awakeP _).mono ?_
                rintro e w6 ⟨rfl, hb6⟩
                go_wp2
                go_ret
                exact ⟨rfl, bvia BF.out hb6⟩
              · have j6 : decide ((6 : Int) < p) = false := decide_eq_false h6
                by_cases h4 : 400 < m
                · have j4 : decide ((400 : Int) < (m : Int)) = true := decide_eq_true (by omega)
                  have j4' : decide (400 < m) = true := decide_eq_true h4
                  have j4'' : (400 : Int) < (m : Int) := by omega
                  go_wp2_with (fail)
                  refine (awakeP _).mono ?_
                  rintro e w6 ⟨rfl, hb6⟩
                  go_wp2
                  go_ret
                  exact ⟨rfl, bvia BF.out hb6⟩
                · have j4 : decide ((400 : Int) < (m : Int)) = false := decide_eq_false (by omega)
                  have j4' : decide (400 < m) = false := decide_eq_false h4
                  have j4'' : ¬ (400 : Int) < (m : Int) := by omega
                  have HOK : Hid (WordOk k (wordL (lineN k) (zRun z0 sl i).xs)) := by
                    have h1 := HTT.out
                    refine ⟨by omega, by omega, by rw [HWL2.out]; omega, fun u hu => ?_⟩
                    have := word_ok _ _ HCR.out.1 u hu
                    rw [lineN_len] at this
                    exact this
                  have CP := Lib.hid (perm02 k Wa m wc _ w5 (own_rd1 WO5.out) HWL2.out HOK.out)
                  go_wp2_with (fail)
                  refine CP.out.mono ?_
                  rintro e w6 ⟨A6, n6, c6, rfl, r6, l6, hb6⟩
                  have LO6 := Lib.hid (own_below LO5.out hb6)
                  have BF6 := Lib.hid (bvia BF.out hb6)
                  have R6 := Lib.hid r6
                  obtain rfl : k = n6 := by rw [← l6, endsN_len, permN_len]
                  have HEN : Hid (∀ q : Nat, q < k → ∃ j : Nat, (endsN (permN k (wordL (lineN k) (zRun z0 sl i).xs) m) k)[q]? = some (j : Int) ∧ (zRun z0 sl i).l[j]? = some (q : Int)) := fun q hq => by
                    have h := perm_ends HCR.out.1 hq
                    rw [HWL2.out, ← HCR.out.2] at h
                    exact h
                  clear r6 l6 hb6 CP HOK LO5 WO5 B5
                  as_aux_lemma =>
                  go_wp2
                  go_loopw [19] (fun v wr => ∃ q : Nat, q ≤ k ∧ v = .int .i64 (q : Int) ∧ Hid (Below w6.heap.size w6 wr)) (fun v _ => k - (intOf v).toNat)
                  case atStart => exact ⟨0, Nat.zero_le _, rfl, Lib.hid (Below.refl _ _)⟩
                  case round =>
                    obtain ⟨q, hq, rfl, HB7⟩ := hrel
                    obtain ⟨w7, rfl⟩ : ∃ w7 : World, w7 = wr := ⟨_, rfl⟩
                    by_cases hlt2 : q < k
                    · have jq : (q : Int) < (k : Int) := by omega
                      obtain ⟨j, hj1, hj2⟩ := HEN.out q hlt2
                      obtain ⟨b6, o6, rfl, hb6, x6⟩ := (R6.out.up HB7.out) q _ hj1
                      obtain ⟨gl, eg, _, hgl, x7⟩ := own_at (own_below LO6.out HB7.out) (j := j) (u := vInt (q : Int)) (by rw [List.getElem?_map, hj2]; rfl)
                      injection eg with eg
                      injection eg with eg
                      subst eg
                      have jj : (j : Int) < (k : Int) := by have := lt_of_get hj2; omega
                      have jn : ((q : Int) != (q : Int)) = false := by simp
                      clear hj1 hj2
                      as_aux_lemma =>
                      go_wp2
                      go_roundw
                      case rel => exact ⟨q + 1, by omega, by go_num, HB7⟩
                      case measure => first | (simp [intOf]; done) | (simp [intOf]; omega)
                    · obtain rfl : q = k := by omega
                      have jq : ¬ (q : Int) < (q : Int) := by omega
                      go_wp2_with (fail)
                      refine (awakeP _).mono ?_
                      rintro e w8 ⟨rfl, hb8⟩
                      go_wp2
                      go_ret
                      exact ⟨rfl, bvia (bvia BF6.out HB7.out) hb8⟩
end Go.Proofs.Ytaenafcecfdffaa
