/-
  The walk of PillowBreaks.
-/
import Derived.Test.YtaenafcecfdffaaVB1
import Derived.Test.YtaenafcecfdffaaVB15
import Derived.Test.YtaenafcecfdffaaVB17
import Derived.Lib.SmallJoins
import Derived.Deep.Slices
import Derived.Deep.Strs
import Derived.OpenShut
import Derived.Carry
namespace Go.Proofs.Ytaenafcecfdffaa
open Go.RowKit
set_option maxRecDepth 100000 in
set_option maxHeartbeats 1000000 in
theorem breaksP (p : Int) (A : Option Addr) (n c : Nat) (b : Int) (a0 a1 : Nat) (ws : List Wk) (w : World) (hn : n ≤ 9223372036854775807) (hw : RdW w w.heap.size A ws) (hl : ws.length = n) (hs : ∀ x ∈ ws, x.word.size ≤ 9223372036854775807) (ha0 : a0 < 65536) :
    Calls Try.prog 7 #[.agg #[.int .i64 p, .slice A n c], .int .i64 b, .agg #[.int .u16 (a0 : Int), .int .u16 (a1 : Int)]] w fun e w' => e = .returned (.bool true) ∧ Below w.heap.size w w' := by
  have CS := Lib.hid (fun (W : World) (hb : Below w.heap.size w W) => stepsC p b A n c ws W hn (hw.up hb) hl hs)
  have K0 : Has ((w.alloc (.cells #[.int .i64 p, .slice A n c] 24)).alloc (.cells #[.int .u16 (a0 : Int), .int .u16 (a1 : Int)] 68)) w.heap.size 24 [.int .i64 p, .slice A n c] := (Has.new (w := w) rfl).alloc _
  have J0 := Has.new2 (w := w) (o := .cells #[.int .i64 p, .slice A n c] 24) (arr := #[.int .u16 (a0 : Int), .int .u16 (a1 : Int)]) (t := 68) (cs := [.int .u16 (a0 : Int), .int .u16 (a1 : Int)]) rfl
  have HL := Lib.hid hl
  have HBG : Hid (ckS p b ws = 0 → ws.length ≤ 60 → (2 ≤ p ∧ p ≤ 24) ∧ (2 ≤ b ∧ b ≤ 8) ∧ csE p b [] = 0 ∧ goAll p b (pil0 (lineN (2 * p.toNat))) (stAll p b (-1) ws) ∧ (stAll p b (-1) ws).length ≤ 2 * ws.length) := fun h0 h1 => beg16 h0 h1
  clear hw hl hs
  go_enter Try.func7, Try.ntmps7
  go_wp2_with fail
  refine (CS.out _ (by go_grown)).mono ?_
  rintro e w1 ⟨hres, hb1⟩
  have B1 := Lib.hid (bvia (show Below w.heap.size w _ by go_grown) hb1)
  have HB := Lib.hid (K0.below hb1 K0.lt)
  have HJ := Lib.hid (J0.below hb1 J0.lt)
  rcases hres with ⟨h0, rfl⟩ | ⟨h0, A2, n2, c2, rfl, r2, l2⟩
  · have e1 : (ckS p b ws != 0) = true := by simpa using h0
    generalize ckS p b ws = er at *
    clear h0 K0 J0 hb1 CS
    go_wp2_with fail
    refine (awakeP _).mono ?_
    rintro e w2 ⟨rfl, hb2⟩
    go_wp2
    go_ret
    exact ⟨rfl, bvia B1.out hb2⟩
  have R2 := Lib.hid (own_rdW r2)
  have L2 := Lib.hid l2
  have d0 : w1.cell? ⟨w.heap.size, 0, none⟩ = some (.int .i64 p) := HB.out.cell 0
  have d1 : w1.cell? ⟨w.heap.size, 1, none⟩ = some (.slice A n c) := HB.out.cell 1
  have q0 := HB.out.lt
  by_cases h40 : 40 < n
  · have j40 : (40 : Int) < (n : Int) := by omega
    clear h0 K0 J0 hb1 CS r2 l2
    go_wp2_with fail
    refine (awakeP _).mono ?_
    rintro e w2 ⟨rfl, hb2⟩
    go_wp2
    go_ret
    exact ⟨rfl, bvia B1.out hb2⟩
  have j40 : decide ((40 : Int) < (n : Int)) = false := decide_eq_false (by omega)
  obtain ⟨hp, hsp, hcs, hgo, hst⟩ := HBG.out h0 (by rw [HL.out]; omega)
  have hst2 : n2 ≤ 80 := by rw [HL.out] at hst; omega
  have HLS := Lib.hid (fun k hk => load_save hp hsp hcs hgo (by omega) k hk)
  have HFI := Lib.hid (fun k hk => zRun_fine hgo (Fine.begin p) k hk)
  have HGO := Lib.hid (go_at hgo)
  have CN := Lib.hid (fun W => newC p b W hcs)
  obtain ⟨sl, hsl⟩ : ∃ sl, sl = stAll p b (-1) ws := ⟨_, rfl⟩
  rw [← hsl] at R2 L2 HLS HFI HGO
  obtain ⟨z0, hz0⟩ : ∃ z0, z0 = pil0 (lineN (2 * p.toNat)) := ⟨_, rfl⟩
  rw [← hz0] at HLS HFI HGO CN
  clear h0 K0 J0 hb1 CS r2 l2 hcs hgo hst hsl hz0 HBG
  go_wp2_with fail
  refine (CN.out _).mono ?_
  rintro e w3 ⟨⟨g, S3, M3, V3, L3, X3, P3, rfl, h3⟩, hb3⟩
  have H3 : Hid (OneP w3 w1.heap.size g p b z0) := ⟨S3, M3, V3, L3, X3, P3, h3⟩
  have B3 := Lib.hid hb3
  clear h3 d1
  have d0 : w3.cell? ⟨w.heap.size, 0, none⟩ = some (.int .i64 p) := (HB.out.below hb3 HB.out.lt).cell 0
  clear hb3
  go_wp2_with fail
  refine (CN.out _).mono ?_
  rintro e w4 ⟨⟨h, S4, M4, V4, L4, X4, P4, rfl, h4⟩, hb4⟩
  have T4 := Lib.hid (TwoP.make H3.out hb4 h4)
  have B4 := Lib.hid (bvia B3.out hb4)
  have j0 : w4.cell? ⟨w.heap.size + 1, 0, none⟩ = some (.int .u16 (a0 : Int)) := (HJ.out.below B4.out HJ.out.lt).cell 0
  clear h4 hb4 CN d0 H3 B3 q0
  obtain ⟨K, hK, hKn⟩ : ∃ K : Nat, (a0 : Int).tmod ((n2 : Int) + 1) = (K : Int) ∧ K ≤ n2 := ⟨a0 % (n2 + 1), by rw [Int.tmod_eq_emod_of_nonneg (by omega)]; rfl, by have := Nat.mod_lt a0 (show 0 < n2 + 1 by omega); omega⟩
  go_wp2
  clear j0 hK
  go_loopw [8, 10, 13] (fun er q i wr => ∃ (k h : Nat), k ≤ n2 + 1 ∧ i = .int .i64 (k : Int) ∧ q = .pointer (some ⟨h, 0, none⟩) ∧ er = .int .i64 0 ∧ Hid (TwoP wr w1.heap.size g h p b (zRun z0 sl (min k n2)) (zRun z0 sl (min k n2))) ∧ Hid (Below w1.heap.size w1 wr)) (fun _ _ i _ => n2 + 1 - (intOf i).toNat)
  case atStart => exact ⟨0, h, Nat.zero_le _, rfl, rfl, rfl, Lib.hid (by rw [Nat.zero_min]; exact T4.out), B4⟩
  case round =>
    clear T4 B4
    obtain ⟨k, h, hk, rfl, rfl, rfl, HT, HBW⟩ := hrel
    obtain ⟨wo, rfl⟩ : ∃ wo : World, wo = wr := ⟨_, rfl⟩
    by_cases hle : k ≤ n2
    · have jle : (k : Int) ≤ (n2 : Int) := by omega
      by_cases hkK : k = K
      · have jK : ((k : Int) == (K : Int)) = true := by simp [hkK]
        have hmk : min k n2 = k := Nat.min_eq_left hle
        have hFk := HFI.out k (by rw [L2.out]; omega)
        have hLk := HLS.out k (by rw [L2.out]; omega)
        have hsl := saveB_len p b _ k hFk
        have CSv := Lib.hid (HT.out.right.save (n := k) (by rw [hmk]; exact hFk.b) (by omega) (by omega) (fun x hx => by rw [hmk] at hx; exact (hFk.st x hx).2.2.2.2))
        rw [hmk] at CSv
        clear hkK
        go_wp2_with fail
        refine CSv.out.mono ?_
        rintro e w5 ⟨A5, n5, c5, rfl, o5, l5, hb5⟩
        have r5 := own_rdB o5
        have hc5 : n5 ≤ c5 := (own_caps o5).1
        have CL := Lib.hid (loadC _ A5 n5 c5 w5 r5 l5 hc5 (by omega))
        have L5 := Lib.hid (HT.out.left.below hb5)
        have B5 := Lib.hid (bvia HBW.out hb5)
        clear hb5 HT HBW CSv o5 r5 l5 hc5
        go_wp2_with fail
        refine CL.out.mono ?_
        rintro e w6 ⟨hb6, ⟨hne, _⟩ | ⟨_, h', S6, M6, V6, L6, X6, P6, rfl, h6⟩⟩
        · exact absurd (by rw [hLk.1]) hne
        rw [hLk.1, hLk.2.1, hLk.2.2] at h6
        have T6' := TwoP.make L5.out hb6 h6
        have T6 : Hid (TwoP w6 w1.heap.size g h' p b (zRun z0 sl (min k n2)) (zRun z0 sl (min k n2))) := by
          show TwoP _ _ _ _ _ _ _ _
          rw [hmk]
          rw [hmk] at T6'
          exact T6'
        have B6 := Lib.hid (bvia B5.out hb6)
        clear hb6 h6 T6' CL L5 B5 hFk hLk hsl hmk
        by_cases hlt : k < n2
        · have jk : (k : Int) < (n2 : Int) := by omega
          obtain ⟨x, hx⟩ := get_of_lt (l := sl) (k := k) (by rw [L2.out]; exact hlt)
          have hE := HGO.out k x hx
          have hFk := HFI.out k (by rw [L2.out]; omega)
          have hmk : min k n2 = k := Nat.min_eq_left (by omega)
          have hmk1 : min (k + 1) n2 = k + 1 := Nat.min_eq_left (by omega)
          have HS := Lib.hid (zRun_succ z0 hx)
          have TT := Lib.hid (show TwoP _ w1.heap.size g h' p b (zRun z0 sl k) (zRun z0 sl k) by have := T6.out; rw [hmk] at this; exact this)
          have CD := Lib.hid (TT.out.doL hFk.b (by omega) hE)
          have HR := Lib.hid (fun W (q : TwoP W w1.heap.size g h' p b ((zRun z0 sl k).step x) (zRun z0 sl k)) => q.doR (x := x) hFk.b (by omega) hE)
          have RX := Lib.hid (fun W (q : Below w1.heap.size w1 W) => (R2.out.up q) k x hx)
          obtain ⟨be, o, hA, hbe, c0, c1, c2'⟩ := RX.out _ B6.out
          subst hA
          clear hx hE hFk hmk TT T6
          go_wp2_with fail
          refine CD.out.mono ?_
          rintro e w7 ⟨rfl, t7, hb7⟩
          have T7 := Lib.hid t7
          have B7 := Lib.hid (B6.out.trans hb7)
          clear t7 hb7 CD B6 c0 c1 c2'
          obtain ⟨be', o', hA, _, c0, c1, c2'⟩ := RX.out _ B7.out
          injection hA with hA
          injection hA with e1 e2
          subst e1 e2
          go_wp2_with fail
          refine (HR.out _ T7.out).mono ?_
          rintro e w8 ⟨rfl, t8, hb8⟩
          have T8 := Lib.hid t8
          have B8 := Lib.hid (B7.out.trans hb8)
          clear t8 hb8 HR T7 B7 RX c0 c1 c2'
          go_wp2
          refine ⟨⟨k + 1, h', by omega, by go_num, rfl, rfl, Lib.hid (by rw [hmk1, HS.out]; exact T8.out), B8⟩, ?_⟩
          first | (simp [intOf]; done) | (simp [intOf]; omega)
        · obtain rfl : k = n2 := by omega
          have jk : ¬ (k : Int) < (k : Int) := by omega
          have TT := Lib.hid (show TwoP _ w1.heap.size g h' p b (zRun z0 sl (min (k + 1) k)) (zRun z0 sl (min (k + 1) k)) by have := T6.out; rw [Nat.min_self] at this; rw [Nat.min_eq_right (Nat.le_succ k)]; exact this)
          clear T6
          go_wp2
          refine ⟨⟨k + 1, h', by omega, by go_num, rfl, rfl, TT, B6⟩, ?_⟩
          first | (simp [intOf]; done) | (simp [intOf]; omega)
      · have jK : ((k : Int) == (K : Int)) = false := beq_eq_false_iff_ne.2 (by omega)
        by_cases hlt : k < n2
        · have jk : (k : Int) < (n2 : Int) := by omega
          obtain ⟨x, hx⟩ := get_of_lt (l := sl) (k := k) (by rw [L2.out]; exact hlt)
          have hE := HGO.out k x hx
          have hFk := HFI.out k (by rw [L2.out]; omega)
          have hmk : min k n2 = k := Nat.min_eq_left (by omega)
          have hmk1 : min (k + 1) n2 = k + 1 := Nat.min_eq_left (by omega)
          have HS := Lib.hid (zRun_succ z0 hx)
          have TT := Lib.hid (show TwoP _ w1.heap.size g h p b (zRun z0 sl k) (zRun z0 sl k) by have := HT.out; rw [hmk] at this; exact this)
          have CD := Lib.hid (TT.out.doL hFk.b (by omega) hE)
          have HR := Lib.hid (fun W (q : TwoP W w1.heap.size g h p b ((zRun z0 sl k).step x) (zRun z0 sl k)) => q.doR (x := x) hFk.b (by omega) hE)
          have RX := Lib.hid (fun W (q : Below w1.heap.size w1 W) => (R2.out.up q) k x hx)
          obtain ⟨be, o, hA, hbe, c0, c1, c2'⟩ := RX.out _ HBW.out
          subst hA
          clear hx hE hFk hmk TT HT
          go_wp2_with fail
          refine CD.out.mono ?_
          rintro e w7 ⟨rfl, t7, hb7⟩
          have T7 := Lib.hid t7
          have B7 := Lib.hid (HBW.out.trans hb7)
          clear t7 hb7 CD HBW c0 c1 c2'
          obtain ⟨be', o', hA, _, c0, c1, c2'⟩ := RX.out _ B7.out
          injection hA with hA
          injection hA with e1 e2
          subst e1 e2
          go_wp2_with fail
          refine (HR.out _ T7.out).mono ?_
          rintro e w8 ⟨rfl, t8, hb8⟩
          have T8 := Lib.hid t8
          have B8 := Lib.hid (B7.out.trans hb8)
          clear t8 hb8 HR T7 B7 RX c0 c1 c2'
          go_wp2
          refine ⟨⟨k + 1, h, by omega, by go_num, rfl, rfl, Lib.hid (by rw [hmk1, HS.out]; exact T8.out), B8⟩, ?_⟩
          first | (simp [intOf]; done) | (simp [intOf]; omega)
        · obtain rfl : k = n2 := by omega
          have jk : ¬ (k : Int) < (k : Int) := by omega
          have TT := Lib.hid (show TwoP _ w1.heap.size g h p b (zRun z0 sl (min (k + 1) k)) (zRun z0 sl (min (k + 1) k)) by have := HT.out; rw [Nat.min_self] at this; rw [Nat.min_eq_right (Nat.le_succ k)]; exact this)
          clear HT
          go_wp2
          refine ⟨⟨k + 1, h, by omega, by go_num, rfl, rfl, TT, HBW⟩, ?_⟩
          first | (simp [intOf]; done) | (simp [intOf]; omega)
    · have jle : ¬ (k : Int) ≤ (n2 : Int) := by omega
      have hmk : min k n2 = n2 := Nat.min_eq_right (by omega)
      have hFN := HFI.out n2 (by rw [L2.out]; exact Nat.le_refl _)
      rw [hmk] at HT
      obtain ⟨z, hz⟩ : ∃ z, z = zRun z0 sl n2 := ⟨_, rfl⟩
      rw [← hz] at HT hFN
      have FN := Lib.hid hFN
      have hsv : ∀ x ∈ z.steps, x.word.size ≤ 16 := fun x hx => (hFN.st x hx).2.2.2.2
      have HSV := Lib.hid hsv
      have hps := hFN.b.ps
      have hxs := hFN.b.xs
      have HLN := Lib.hid hFN.b.l
      have CA := Lib.hid (HT.out.left.save hFN.b (by omega) (by omega) hsv)
      clear hz hsv hmk hFN HLS HFI HGO R2
      go_wp2_with fail
      refine CA.out.mono ?_
      rintro e w2 ⟨A2', n2', c2', rfl, o2, l2, hb2⟩
      have R2 := Lib.hid (own_rdB o2)
      have T2 := Lib.hid (HT.out.below hb2)
      have B2 := Lib.hid (bvia HBW.out hb2)
      have CB := Lib.hid (T2.out.right.save FN.out.b (by omega) (by omega) HSV.out)
      clear o2 hb2 HT HBW CA
      go_wp2_with fail
      refine CB.out.mono ?_
      rintro e w3 ⟨A3', n3', c3', rfl, o3, l3, hb3⟩
      subst l2 l3
      have CS := Lib.hid (sameBytesC A2' A3' (saveB p b z).length c2' c3' (saveB p b z) w3 (Rd1.up R2.out hb3) (own_rdB o3) rfl)
      have T3 := Lib.hid (T2.out.below hb3)
      have B3 := Lib.hid (bvia B2.out hb3)
      have CC := Lib.hid (T3.out.left.cloth FN.out.b (by omega) ⟨by omega, by omega⟩)
      clear o3 hb3 T2 B2 CB R2
      go_wp2_with fail
      refine CS.out.mono ?_
      rintro e w4 ⟨rfl, rfl⟩
      clear CS
      go_wp2_with fail
      refine CC.out.mono ?_
      rintro e w5 ⟨X5, nx, cx, Y5, ny, cy, rfl, rX, rY, lX, lY, hb5⟩
      have RX := Lib.hid rX
      have RY := Lib.hid rY
      have T5 := Lib.hid (T3.out.below hb5)
      have B5 := Lib.hid (bvia B3.out hb5)
      have CD := Lib.hid (T5.out.right.cloth FN.out.b (by omega) ⟨by omega, by omega⟩)
      clear rX rY hb5 T3 B3 CC
      go_wp2_with fail
      refine CD.out.mono ?_
      rintro e w6 ⟨X6, nx6, cx6, Y6, ny6, cy6, rfl, rX6, rY6, lX6, lY6, hb6⟩
      rw [List.length_map] at lY lY6
      subst lX lY lX6 lY6
      have CE := Lib.hid (sameCl (2 * p) X5 Y5 X6 Y6 z.xs.length cx z.ps.length cy cx6 cy6 z.xs (z.ps.map Pn.q) w6 (by omega) (by omega) (RX.out.up hb6) rX6 (RY.out.up hb6) rY6 rfl (List.length_map _))
      have T6 := Lib.hid (T5.out.below hb6)
      have B6 := Lib.hid (bvia B5.out hb6)
      clear rX6 rY6 hb6 T5 B5 CD RX RY
      go_wp2_with fail
      refine CE.out.mono ?_
      rintro e w7 ⟨rfl, hb7⟩
      have T7 := Lib.hid (T6.out.below hb7)
      have B7 := Lib.hid (bvia B6.out hb7)
      have CF := Lib.hid (T7.out.left.line FN.out.b ⟨by omega, by omega⟩)
      clear hb7 T6 B6 CE
      go_wp2_with fail
      refine CF.out.mono ?_
      rintro e w8 ⟨A8, n8, c8, rfl, o8, l8, hb8⟩
      have R8 := Lib.hid (own_rd1 o8)
      have T8 := Lib.hid (T7.out.below hb8)
      have B8 := Lib.hid (bvia B7.out hb8)
      have CG := Lib.hid (T8.out.right.line FN.out.b ⟨by omega, by omega⟩)
      clear o8 hb8 T7 B7 CF
      go_wp2_with fail
      refine CG.out.mono ?_
      rintro e w9 ⟨A9, n9, c9, rfl, o9, l9, hb9⟩
      subst l8 l9
      have CH := Lib.hid (sameInts04 A8 A9 z.l.length z.l.length c8 c9 z.l z.l w9 (by have := HLN.out; omega) (by have := HLN.out; omega) (Rd1.up R8.out hb9) (own_rd1 o9) rfl rfl)
      have T9 := Lib.hid (T8.out.below hb9)
      have B9 := Lib.hid (bvia B8.out hb9)
      clear o9 hb9 T8 B8 CG R8
      go_wp2_with fail
      refine CH.out.mono ?_
      rintro e w10 ⟨rfl, hb10⟩
      have jl : (z.l == z.l) = true := beq_self_eq_true _
      rw [jl]
      have T10 := Lib.hid (T9.out.below hb10)
      have B10 := Lib.hid (bvia B9.out hb10)
      have CI := Lib.hid (T10.out.right.stand FN.out.b (by omega) (by omega))
      clear hb10 T9 B9 CH jl
      go_wp2_with fail
      refine CI.out.mono ?_
      rintro e w11 ⟨A11, n11, c11, rfl, o11, l11, hb11⟩
      obtain ⟨pins, hpins⟩ : ∃ pins, pins = standL z.ps z.ps.length := ⟨_, rfl⟩
      have PL := Lib.hid (plls z a1)
      have PC := Lib.hid (fun k v (hk : (standL z.ps z.ps.length)[k]? = some v) => pull_can (a := a1) hk)
      rw [← hpins] at o11 l11 PL PC
      subst l11
      have P11 := Lib.hid (PinsP.make T10.out hb11 o11)
      have B11 := Lib.hid (bvia B10.out hb11)
      have hpl : pins.length ≤ 2000 := by
        have h1 := (PL.out 0 (Nat.zero_le _)).n
        have h2 : ∀ k, (standL z.ps k).length ≤ k := fun k => by
          induction k with
          | zero => exact Nat.le_refl _
          | succ k ih =>
            cases hk : z.ps[k]? with
            | none =>
              have e : standL z.ps (k + 1) = standL z.ps k := by show (match z.ps[k]? with | none => _ | some x => _) = _; rw [hk]
              rw [e]; omega
            | some x =>
              rw [standL_succ hk]
              split
              · rw [List.length_append]; simp only [List.length_cons, List.length_nil]; omega
              · omega
        have := h2 z.ps.length
        rw [hpins]; omega
      clear hpins o11 hb11 T10 B10 CI
      go_wp2
      go_loopw [15] (fun i wr => ∃ (k : Nat), k ≤ pins.length ∧ k ≤ 16 ∧ i = .int .i64 (k : Int) ∧ Hid (PinsP wr w1.heap.size g h p b z (pullN' z pins a1 k) A11 pins.length c11 pins) ∧ Hid (Below w1.heap.size w1 wr)) (fun i _ => 16 - (intOf i).toNat)
      case atStart => exact ⟨0, Nat.zero_le _, Nat.zero_le _, rfl, P11, B11⟩
      case round =>
        clear P11 B11
        obtain ⟨k, hk, hk16, rfl, HP, HBW⟩ := hrel
        obtain ⟨wq, rfl⟩ : ∃ wq : World, wq = wr := ⟨_, rfl⟩
        have hJ := HJ.out.below HBW.out HJ.out.lt
        have j1 : wq.cell? ⟨w.heap.size + 1, 1, none⟩ = some (.int .u16 (a1 : Int)) := hJ.cell 1
        have jq := hJ.lt
        clear hJ
        by_cases hlt : k < pins.length
        · have jk : (k : Int) < (pins.length : Int) := by omega
          by_cases h16 : k < 16
          · have j16 : (k : Int) < 16 := by omega
            by_cases hsel : ((a1 : Int) / 2 ^ k).tmod 2 = 1
            · obtain ⟨v, hv⟩ := get_of_lt hlt
              obtain ⟨j, y, rfl, hy, hE⟩ := PC.out k v hv
              obtain ⟨bp, op, hA, hbp, cy⟩ := HP.out.rd k (j : Int) hv
              subst hA
              have hgv : pins.getD k 0 = (j : Int) := by rw [List.getD_eq_getElem?_getD, hv]; rfl
              have hpu : pullN' z pins a1 (k + 1) = (pullN' z pins a1 k).pull j := by
                show (if selB a1 k = true then (pullN' z pins a1 k).pull (pins.getD k 0).toNat else _) = _
                rw [if_pos (sel_yes h16 hsel), hgv, Int.toNat_natCast]
              have CP := Lib.hid (HP.out.pull (by omega) hy hE)
              rw [← hpu] at CP
              clear hv hy hE hgv hpu
              go_wp2_with fail
              refine CP.out.mono ?_
              rintro e w12 ⟨rfl, h12, hb12⟩
              have P12 := Lib.hid h12
              have B12 := Lib.hid (HBW.out.trans hb12)
              clear h12 hb12 CP HP HBW cy j1
              go_wp2
              refine ⟨⟨k + 1, by omega, by omega, by go_num, P12, B12⟩, ?_⟩
              first | (simp [intOf]; done) | (simp [intOf]; omega)
            · have hpu : pullN' z pins a1 (k + 1) = pullN' z pins a1 k := by
                show (if selB a1 k = true then _ else _) = _
                rw [sel_no hsel]
                rfl
              have P12 : Hid (PinsP wq w1.heap.size g h p b z (pullN' z pins a1 (k + 1)) A11 pins.length c11 pins) := by rw [hpu]; exact HP
              clear hpu HP
              go_wp2
              refine ⟨⟨k + 1, by omega, by omega, by go_num, P12, HBW⟩, ?_⟩
              first | (simp [intOf]; done) | (simp [intOf]; omega)
          · obtain rfl : k = 16 := by omega
            have jk : (16 : Int) < (pins.length : Int) := by omega
            have j16 : ¬ (16 : Int) < 16 := by omega
            obtain ⟨h1, h2, h3, h4, h5, hst, hmk, h6, _, h8⟩ := PL.out 16 (by omega)
            obtain ⟨y, hy⟩ : ∃ y, y = pullN' z pins a1 16 := ⟨_, rfl⟩
            rw [← hy] at HP h1 h2 h3 h4 h5 h6 h8 hst hmk
            have hsn : selN a1 16 = selN a1 pins.length := by first | rfl | (rw [← selN_min a1 pins.length]; congr 1; omega)
            rw [hsn] at h8
            have HB9 : Hid (Bnd p y n2) := ⟨by rw [hst]; exact FN.out.b.steps, by rw [hmk]; exact FN.out.b.marks, by rw [h4]; exact FN.out.b.works, by rw [h3]; exact FN.out.b.xs, by rw [h1]; exact FN.out.b.ps, by rw [h2]; exact FN.out.b.l⟩
            have H8 : Hid ((standL y.ps y.ps.length).length + selN a1 pins.length = pins.length) := by rw [h1]; exact h8
            have HE : Hid (y.l = z.l ∧ y.xs = z.xs ∧ y.works = z.works ∧ y.hands = z.hands ∧ y.ps.map Pn.q = z.ps.map Pn.q ∧ y.ps.length = z.ps.length) := ⟨h2, h3, h4, h5, h6, h1⟩
            clear h1 h2 h3 h4 h5 h6 h8 hst hmk hy hsn PL PC
            go_wp2
            go_loopw [16, 17] (fun lf i wr => ∃ (k m : Nat), k ≤ pins.length ∧ m + selN a1 k = k ∧ lf = .int .i64 (m : Int) ∧ i = .int .i64 (k : Int) ∧ Hid (PinsP wr w1.heap.size g h p b z y A11 pins.length c11 pins) ∧ Hid (Below w1.heap.size w1 wr)) (fun _ i _ => pins.length - (intOf i).toNat)
            case atStart => exact ⟨0, 0, Nat.zero_le _, rfl, rfl, rfl, HP, HBW⟩
            case round =>
              clear HP HBW j1 jq
              obtain ⟨k, m, hk, hm, rfl, rfl, HP, HBW⟩ := hrel
              obtain ⟨wt, rfl⟩ : ∃ wt : World, wt = wr := ⟨_, rfl⟩
              by_cases hlt : k < pins.length
              · have jk : (k : Int) < (pins.length : Int) := by omega
                have hJ := HJ.out.below HBW.out HJ.out.lt
                have j1 : wt.cell? ⟨w.heap.size + 1, 1, none⟩ = some (.int .u16 (a1 : Int)) := hJ.cell 1
                have jq := hJ.lt
                have hm2 := selN_le a1 k
                have hss : selN a1 (k + 1) = selN a1 k + (if selB a1 k = true then 1 else 0) := rfl
                clear hJ
                by_cases h16 : k < 16
                · have j16 : ¬ (16 : Int) ≤ (k : Int) := by omega
                  by_cases hsel : ((a1 : Int) / 2 ^ k).tmod 2 = 1
                  · have j0 : ¬ ((a1 : Int) / 2 ^ k).tmod 2 = 0 := by omega
                    rw [sel_yes h16 hsel, if_pos rfl] at hss
                    have HM : Hid (m + selN a1 (k + 1) = k + 1) := by rw [hss]; show m + (selN a1 k + 1) = k + 1; omega
                    clear hss hm hm2
                    go_wp2
                    refine ⟨⟨k + 1, m, by omega, HM.out, rfl, by go_num, HP, HBW⟩, ?_⟩
                    first | (simp [intOf]; done) | (simp [intOf]; omega)
                  · have j0 : ((a1 : Int) / 2 ^ k).tmod 2 = 0 := by
                      have := sel_val a1 k
                      omega
                    rw [sel_no hsel] at hss
                    have HM : Hid (m + 1 + selN a1 (k + 1) = k + 1) := by rw [hss]; show m + 1 + (selN a1 k + 0) = k + 1; omega
                    have hmb : m ≤ k := by omega
                    clear hss hm hm2
                    go_wp2
                    refine ⟨⟨k + 1, m + 1, by omega, HM.out, by go_num, by go_num, HP, HBW⟩, ?_⟩
                    first | (simp [intOf]; done) | (simp [intOf]; omega)
                · have j16 : (16 : Int) ≤ (k : Int) := by omega
                  have hns : selB a1 k = false := by unfold selB; rw [decide_eq_false h16]; rfl
                  rw [hns] at hss
                  have HM : Hid (m + 1 + selN a1 (k + 1) = k + 1) := by rw [hss]; show m + 1 + (selN a1 k + 0) = k + 1; omega
                  have hmb : m ≤ k := by omega
                  clear hss hm hm2 hns
                  go_wp2
                  refine ⟨⟨k + 1, m + 1, by omega, HM.out, by go_num, by go_num, HP, HBW⟩, ?_⟩
                  first | (simp [intOf]; done) | (simp [intOf]; omega)
              · obtain rfl : k = pins.length := by omega
                have jk : ¬ (pins.length : Int) < (pins.length : Int) := by omega
                have hml : m = (standL y.ps y.ps.length).length := by have := H8.out; omega
                have CA := Lib.hid (HP.out.two.right.stand HB9.out (by omega) (by omega))
                have T0 := Lib.hid HP.out.two
                clear hm HP H8
                go_wp2_with fail
                refine CA.out.mono ?_
                rintro e v1 ⟨A1', n1', c1', rfl, _, l1', hb1'⟩
                subst l1' hml
                have T1 := Lib.hid (T0.out.below hb1')
                have B1' := Lib.hid (bvia HBW.out hb1')
                have CB := Lib.hid (T1.out.left.cloth FN.out.b (by omega) ⟨by omega, by omega⟩)
                clear hb1' T0 HBW CA
                go_wp2_with fail
                refine CB.out.mono ?_
                rintro e v2 ⟨X5, nx, cx, Y5, ny, cy, rfl, rX, rY, lX, lY, hb5⟩
                have RX := Lib.hid rX
                have RY := Lib.hid rY
                have T5 := Lib.hid (T1.out.below hb5)
                have B5 := Lib.hid (bvia B1'.out hb5)
                have CD := Lib.hid (T5.out.right.cloth HB9.out (by omega) ⟨by omega, by omega⟩)
                rw [HE.out.2.1, HE.out.2.2.2.2.1] at CD
                clear rX rY hb5 T1 B1' CB
                go_wp2_with fail
                refine CD.out.mono ?_
                rintro e v3 ⟨X6, nx6, cx6, Y6, ny6, cy6, rfl, rX6, rY6, lX6, lY6, hb6⟩
                rw [List.length_map] at lY lY6
                subst lX lY lX6 lY6
                have CE := Lib.hid (sameCl (2 * p) X5 Y5 X6 Y6 z.xs.length cx z.ps.length cy cx6 cy6 z.xs (z.ps.map Pn.q) v3 (by omega) (by omega) (RX.out.up hb6) rX6 (RY.out.up hb6) rY6 rfl (List.length_map _))
                have T6 := Lib.hid (T5.out.below hb6)
                have B6 := Lib.hid (bvia B5.out hb6)
                clear rX6 rY6 hb6 T5 B5 CD RX RY
                go_wp2_with fail
                refine CE.out.mono ?_
                rintro e v4 ⟨rfl, hb7⟩
                have T7 := Lib.hid (T6.out.below hb7)
                have B7 := Lib.hid (bvia B6.out hb7)
                have CF := Lib.hid (T7.out.left.line FN.out.b ⟨by omega, by omega⟩)
                clear hb7 T6 B6 CE
                go_wp2_with fail
                refine CF.out.mono ?_
                rintro e v5 ⟨A8, n8, c8, rfl, o8, l8, hb8⟩
                have R8 := Lib.hid (own_rd1 o8)
                have T8 := Lib.hid (T7.out.below hb8)
                have B8 := Lib.hid (bvia B7.out hb8)
                have CG := Lib.hid (T8.out.right.line HB9.out ⟨by omega, by omega⟩)
                rw [HE.out.1] at CG
                clear o8 hb8 T7 B7 CF
                go_wp2_with fail
                refine CG.out.mono ?_
                rintro e v6 ⟨A9, n9, c9, rfl, o9, l9, hb9⟩
                subst l8 l9
                have CH := Lib.hid (sameInts04 A8 A9 z.l.length z.l.length c8 c9 z.l z.l v6 (by have := HLN.out; omega) (by have := HLN.out; omega) (Rd1.up R8.out hb9) (own_rd1 o9) rfl rfl)
                have T9 := Lib.hid (T8.out.below hb9)
                have B9 := Lib.hid (bvia B8.out hb9)
                clear o9 hb9 T8 B8 CG R8
                go_wp2_with fail
                refine CH.out.mono ?_
                rintro e v7 ⟨rfl, hb10⟩
                have jl : (z.l == z.l) = true := beq_self_eq_true _
                rw [jl]
                have T10 := Lib.hid (T9.out.below hb10)
                have B10 := Lib.hid (bvia B9.out hb10)
                have CI := Lib.hid (T10.out.left.sheet FN.out.b (by omega))
                clear hb10 T9 B9 CH jl
                go_wp2_with fail
                refine CI.out.mono ?_
                rintro e v8 ⟨W1, m1, k1, rfl, rW, lW, hm1, hb11⟩
                have RW := Lib.hid rW
                have T11 := Lib.hid (T10.out.below hb11)
                have B11 := Lib.hid (bvia B10.out hb11)
                have CJ := Lib.hid (T11.out.right.sheet HB9.out (by omega))
                rw [HE.out.2.2.1] at CJ
                clear rW hb11 T10 B10 CI
                go_wp2_with fail
                refine CJ.out.mono ?_
                rintro e v9 ⟨W2, m2, k2, rfl, rW2, lW2, hm2, hb12⟩
                have CK := Lib.hid (same04 p p W1 W2 m1 m2 k1 k2 z.works z.works v9 (by omega) (by omega) (RW.out.up hb12) rW2 lW lW2)
                have T12 := Lib.hid (T11.out.below hb12)
                have B12 := Lib.hid (bvia B11.out hb12)
                clear rW2 hb12 T11 B11 CJ RW lW lW2
                go_wp2_with fail
                refine CK.out.mono ?_
                rintro e v10 ⟨rfl, hb13⟩
                have jl : (p == p && z.works == z.works) = true := by rw [beq_self_eq_true, beq_self_eq_true]; rfl
                rw [jl]
                have T13 := Lib.hid (T12.out.below hb13)
                have B13 := Lib.hid (bvia B12.out hb13)
                have CL := Lib.hid (T13.out.left.hands (by omega))
                have CM := Lib.hid (T13.out.right.hands (by omega))
                rw [HE.out.2.2.2.1] at CM
                clear hb13 T12 B12 CK jl T13
                go_wp2_with fail
                refine CL.out.mono ?_
                rintro e v11 ⟨rfl, rfl⟩
                go_wp2_with fail
                refine CM.out.mono ?_
                rintro e v12 ⟨rfl, rfl⟩
                clear CL CM
                go_wp2_with fail
                refine (awakeP _).mono ?_
                rintro e v13 ⟨rfl, hb14⟩
                go_wp2
                go_ret
                exact ⟨rfl, bvia B1.out (bvia B13.out hb14)⟩
        · obtain rfl : k = pins.length := by omega
          have jk : ¬ (pins.length : Int) < (pins.length : Int) := by omega
          obtain ⟨h1, h2, h3, h4, h5, hst, hmk, h6, _, h8⟩ := PL.out pins.length (by omega)
          obtain ⟨y, hy⟩ : ∃ y, y = pullN' z pins a1 pins.length := ⟨_, rfl⟩
          rw [← hy] at HP h1 h2 h3 h4 h5 h6 h8 hst hmk
          have hsn : selN a1 pins.length = selN a1 pins.length := by first | rfl | (rw [← selN_min a1 pins.length]; congr 1; omega)
          rw [hsn] at h8
          have HB9 : Hid (Bnd p y n2) := ⟨by rw [hst]; exact FN.out.b.steps, by rw [hmk]; exact FN.out.b.marks, by rw [h4]; exact FN.out.b.works, by rw [h3]; exact FN.out.b.xs, by rw [h1]; exact FN.out.b.ps, by rw [h2]; exact FN.out.b.l⟩
          have H8 : Hid ((standL y.ps y.ps.length).length + selN a1 pins.length = pins.length) := by rw [h1]; exact h8
          have HE : Hid (y.l = z.l ∧ y.xs = z.xs ∧ y.works = z.works ∧ y.hands = z.hands ∧ y.ps.map Pn.q = z.ps.map Pn.q ∧ y.ps.length = z.ps.length) := ⟨h2, h3, h4, h5, h6, h1⟩
          clear h1 h2 h3 h4 h5 h6 h8 hst hmk hy hsn PL PC
          go_wp2
          go_loopw [16, 17] (fun lf i wr => ∃ (k m : Nat), k ≤ pins.length ∧ m + selN a1 k = k ∧ lf = .int .i64 (m : Int) ∧ i = .int .i64 (k : Int) ∧ Hid (PinsP wr w1.heap.size g h p b z y A11 pins.length c11 pins) ∧ Hid (Below w1.heap.size w1 wr)) (fun _ i _ => pins.length - (intOf i).toNat)
          case atStart => exact ⟨0, 0, Nat.zero_le _, rfl, rfl, rfl, HP, HBW⟩
          case round =>
            clear HP HBW j1 jq
            obtain ⟨k, m, hk, hm, rfl, rfl, HP, HBW⟩ := hrel
            obtain ⟨wt, rfl⟩ : ∃ wt : World, wt = wr := ⟨_, rfl⟩
            by_cases hlt : k < pins.length
            · have jk : (k : Int) < (pins.length : Int) := by omega
              have hJ := HJ.out.below HBW.out HJ.out.lt
              have j1 : wt.cell? ⟨w.heap.size + 1, 1, none⟩ = some (.int .u16 (a1 : Int)) := hJ.cell 1
              have jq := hJ.lt
              have hm2 := selN_le a1 k
              have hss : selN a1 (k + 1) = selN a1 k + (if selB a1 k = true then 1 else 0) := rfl
              clear hJ
              by_cases h16 : k < 16
              · have j16 : ¬ (16 : Int) ≤ (k : Int) := by omega
                by_cases hsel : ((a1 : Int) / 2 ^ k).tmod 2 = 1
                · have j0 : ¬ ((a1 : Int) / 2 ^ k).tmod 2 = 0 := by omega
                  rw [sel_yes h16 hsel, if_pos rfl] at hss
                  have HM : Hid (m + selN a1 (k + 1) = k + 1) := by rw [hss]; show m + (selN a1 k + 1) = k + 1; omega
                  clear hss hm hm2
                  go_wp2
                  refine ⟨⟨k + 1, m, by omega, HM.out, rfl, by go_num, HP, HBW⟩, ?_⟩
                  first | (simp [intOf]; done) | (simp [intOf]; omega)
                · have j0 : ((a1 : Int) / 2 ^ k).tmod 2 = 0 := by
                    have := sel_val a1 k
                    omega
                  rw [sel_no hsel] at hss
                  have HM : Hid (m + 1 + selN a1 (k + 1) = k + 1) := by rw [hss]; show m + 1 + (selN a1 k + 0) = k + 1; omega
                  have hmb : m ≤ k := by omega
                  clear hss hm hm2
                  go_wp2
                  refine ⟨⟨k + 1, m + 1, by omega, HM.out, by go_num, by go_num, HP, HBW⟩, ?_⟩
                  first | (simp [intOf]; done) | (simp [intOf]; omega)
              · have j16 : (16 : Int) ≤ (k : Int) := by omega
                have hns : selB a1 k = false := by unfold selB; rw [decide_eq_false h16]; rfl
                rw [hns] at hss
                have HM : Hid (m + 1 + selN a1 (k + 1) = k + 1) := by rw [hss]; show m + 1 + (selN a1 k + 0) = k + 1; omega
                have hmb : m ≤ k := by omega
                clear hss hm hm2 hns
                go_wp2
                refine ⟨⟨k + 1, m + 1, by omega, HM.out, by go_num, by go_num, HP, HBW⟩, ?_⟩
                first | (simp [intOf]; done) | (simp [intOf]; omega)
            · obtain rfl : k = pins.length := by omega
              have jk : ¬ (pins.length : Int) < (pins.length : Int) := by omega
              have hml : m = (standL y.ps y.ps.length).length := by have := H8.out; omega
              have CA := Lib.hid (HP.out.two.right.stand HB9.out (by omega) (by omega))
              have T0 := Lib.hid HP.out.two
              clear hm HP H8
              go_wp2_with fail
              refine CA.out.mono ?_
              rintro e v1 ⟨A1', n1', c1', rfl, _, l1', hb1'⟩
              subst l1' hml
              have T1 := Lib.hid (T0.out.below hb1')
              have B1' := Lib.hid (bvia HBW.out hb1')
              have CB := Lib.hid (T1.out.left.cloth FN.out.b (by omega) ⟨by omega, by omega⟩)
              clear hb1' T0 HBW CA
              go_wp2_with fail
              refine CB.out.mono ?_
              rintro e v2 ⟨X5, nx, cx, Y5, ny, cy, rfl, rX, rY, lX, lY, hb5⟩
              have RX := Lib.hid rX
              have RY := Lib.hid rY
              have T5 := Lib.hid (T1.out.below hb5)
              have B5 := Lib.hid (bvia B1'.out hb5)
              have CD := Lib.hid (T5.out.right.cloth HB9.out (by omega) ⟨by omega, by omega⟩)
              rw [HE.out.2.1, HE.out.2.2.2.2.1] at CD
              clear rX rY hb5 T1 B1' CB
              go_wp2_with fail
              refine CD.out.mono ?_
              rintro e v3 ⟨X6, nx6, cx6, Y6, ny6, cy6, rfl, rX6, rY6, lX6, lY6, hb6⟩
              rw [List.length_map] at lY lY6
              subst lX lY lX6 lY6
              have CE := Lib.hid (sameCl (2 * p) X5 Y5 X6 Y6 z.xs.length cx z.ps.length cy cx6 cy6 z.xs (z.ps.map Pn.q) v3 (by omega) (by omega) (RX.out.up hb6) rX6 (RY.out.up hb6) rY6 rfl (List.length_map _))
              have T6 := Lib.hid (T5.out.below hb6)
              have B6 := Lib.hid (bvia B5.out hb6)
              clear rX6 rY6 hb6 T5 B5 CD RX RY
              go_wp2_with fail
              refine CE.out.mono ?_
              rintro e v4 ⟨rfl, hb7⟩
              have T7 := Lib.hid (T6.out.below hb7)
              have B7 := Lib.hid (bvia B6.out hb7)
              have CF := Lib.hid (T7.out.left.line FN.out.b ⟨by omega, by omega⟩)
              clear hb7 T6 B6 CE
              go_wp2_with fail
              refine CF.out.mono ?_
              rintro e v5 ⟨A8, n8, c8, rfl, o8, l8, hb8⟩
              have R8 := Lib.hid (own_rd1 o8)
              have T8 := Lib.hid (T7.out.below hb8)
              have B8 := Lib.hid (bvia B7.out hb8)
              have CG := Lib.hid (T8.out.right.line HB9.out ⟨by omega, by omega⟩)
              rw [HE.out.1] at CG
              clear o8 hb8 T7 B7 CF
              go_wp2_with fail
              refine CG.out.mono ?_
              rintro e v6 ⟨A9, n9, c9, rfl, o9, l9, hb9⟩
              subst l8 l9
              have CH := Lib.hid (sameInts04 A8 A9 z.l.length z.l.length c8 c9 z.l z.l v6 (by have := HLN.out; omega) (by have := HLN.out; omega) (Rd1.up R8.out hb9) (own_rd1 o9) rfl rfl)
              have T9 := Lib.hid (T8.out.below hb9)
              have B9 := Lib.hid (bvia B8.out hb9)
              clear o9 hb9 T8 B8 CG R8
              go_wp2_with fail
              refine CH.out.mono ?_
              rintro e v7 ⟨rfl, hb10⟩
              have jl : (z.l == z.l) = true := beq_self_eq_true _
              rw [jl]
              have T10 := Lib.hid (T9.out.below hb10)
              have B10 := Lib.hid (bvia B9.out hb10)
              have CI := Lib.hid (T10.out.left.sheet FN.out.b (by omega))
              clear hb10 T9 B9 CH jl
              go_wp2_with fail
              refine CI.out.mono ?_
              rintro e v8 ⟨W1, m1, k1, rfl, rW, lW, hm1, hb11⟩
              have RW := Lib.hid rW
              have T11 := Lib.hid (T10.out.below hb11)
              have B11 := Lib.hid (bvia B10.out hb11)
              have CJ := Lib.hid (T11.out.right.sheet HB9.out (by omega))
              rw [HE.out.2.2.1] at CJ
              clear rW hb11 T10 B10 CI
              go_wp2_with fail
              refine CJ.out.mono ?_
              rintro e v9 ⟨W2, m2, k2, rfl, rW2, lW2, hm2, hb12⟩
              have CK := Lib.hid (same04 p p W1 W2 m1 m2 k1 k2 z.works z.works v9 (by omega) (by omega) (RW.out.up hb12) rW2 lW lW2)
              have T12 := Lib.hid (T11.out.below hb12)
              have B12 := Lib.hid (bvia B11.out hb12)
              clear rW2 hb12 T11 B11 CJ RW lW lW2
              go_wp2_with fail
              refine CK.out.mono ?_
              rintro e v10 ⟨rfl, hb13⟩
              have jl : (p == p && z.works == z.works) = true := by rw [beq_self_eq_true, beq_self_eq_true]; rfl
              rw [jl]
              have T13 := Lib.hid (T12.out.below hb13)
              have B13 := Lib.hid (bvia B12.out hb13)
              have CL := Lib.hid (T13.out.left.hands (by omega))
              have CM := Lib.hid (T13.out.right.hands (by omega))
              rw [HE.out.2.2.2.1] at CM
              clear hb13 T12 B12 CK jl T13
              go_wp2_with fail
              refine CL.out.mono ?_
              rintro e v11 ⟨rfl, rfl⟩
              go_wp2_with fail
              refine CM.out.mono ?_
              rintro e v12 ⟨rfl, rfl⟩
              clear CL CM
              go_wp2_with fail
              refine (awakeP _).mono ?_
              rintro e v13 ⟨rfl, hb14⟩
              go_wp2
              go_ret
              exact ⟨rfl, bvia B1.out (bvia B13.out hb14)⟩
end Go.Proofs.Ytaenafcecfdffaa
/-
  Arguments of the statements read as words: a sheet, a work.
-/
namespace Go.Proofs.Ytaenafcecfdffaa
open Go.RowKit Go.ChangeShapes Go.WideShapes Go.ChangeAt Go.Joins Go.Deep
theorem maxLen_le : maxLen ≤ 9223372036854775807 := by simp [maxLen]
instance : Inhabited Wk := ⟨⟨0, 0, ⟨#[]⟩⟩⟩
theorem cellsWk : Try.prog.cellsOf 86 = 3 := by kernel_rfl
theorem cellsSheet : Try.prog.cellsOf 24 = 2 := by kernel_rfl
theorem cellsI : Try.prog.cellsOf 3 = 1 := by kernel_rfl
theorem cellsS : Try.prog.cellsOf 9 = 1 := by kernel_rfl
section
variable {H : Type} {enc : TypeId × Value → H} {w : World} {held : Bool}
set_option maxRecDepth 100000 in
/-- the three cells of a work -/
theorem cells_wk {n : Nat} {cs : List Value} {x : DataW H × List MemPlace} {sp : Nat → Bool} {base : Nat} (h : DataW.trod enc Try.prog w base sp held n 86 cs = some x) :
    ∃ y : Wk, cs = [.int .i64 y.kind, .int .i64 y.at_, .string y.word] ∧ y.word.size ≤ 9223372036854775807 := by
  obtain ⟨y0, y1, y2, m, _, hl, h0, h1, h2⟩ := trod_struct3 Try.underlying86 h
  rw [cellsWk] at hl
  match cs, hl with
  | [v0, v1, v2], _ =>
    simp [cellsI, cellsS] at h0 h1 h2
    obtain ⟨k, e0, _, _⟩ := DataW.trod_int Try.underlying3 h0
    obtain ⟨a, e1, _, _⟩ := DataW.trod_int Try.underlying3 h1
    obtain ⟨s, e2, _, hs⟩ := DataW.trod_string Try.underlying9 h2
    simp at e0 e1 e2
    subst e0 e1 e2
    exact ⟨⟨k, a, s⟩, rfl, Nat.le_trans hs maxLen_le⟩
set_option maxRecDepth 100000 in
/-- a cell that reads as a slice of works -/
theorem cell_wks {n : Nat} {v : Value} {x : DataW H × List MemPlace} (h : DataW.trod enc Try.prog w 0 (fun _ => true) held n 22 [v] = some x) :
    ∃ (A : Option Addr) (n c : Nat) (ws : List Wk), v = .slice A n c ∧ n ≤ c ∧ c ≤ 9223372036854775807 ∧ RdW w w.heap.size A ws ∧ ws.length = n ∧ (∀ y ∈ ws, y.word.size ≤ 9223372036854775807) := by
  rcases open_slice Try.underlying22 h with ⟨hv, _⟩ | ⟨a, len, cap, m, q, D, Pl, hv, _, hl, hc, hm, hx, hcs⟩
  · simp at hv
    exact ⟨none, 0, 0, [], hv, Nat.le_refl _, by omega, RdW.nil _ _ _, rfl, by simp⟩
  · simp only [if_true] at hm
    subst hm
    simp at hv
    have each : ∀ i, i < len → ∃ y : Wk, y.word.size ≤ 9223372036854775807 ∧ w.cell? (a.add (i * 3)) = some (.int .i64 y.kind) ∧ w.cell? (a.add (i * 3 + 1)) = some (.int .i64 y.at_) ∧ w.cell? (a.add (i * 3 + 2)) = some (.string y.word) := by
      intro i hi
      obtain ⟨cs', h1, h2⟩ := hcs i (by omega)
      rw [cellsWk] at h1
      obtain ⟨_, hlen, hcell⟩ := World.cells?_some h1
      obtain ⟨y, rfl, hy⟩ := cells_wk h2
      have e0 := hcell 0 (by omega)
      have e1 := hcell 1 (by omega)
      have e2 := hcell 2 (by omega)
      rw [add_add] at e0 e1 e2
      exact ⟨y, hy, by simpa using e0, by simpa using e1, by simpa using e2⟩
    obtain ⟨X, hX⟩ := choose_lt each
    refine ⟨some a, len, m, (List.range len).map X, hv, hl, Nat.le_trans hc maxLen_le, ?_, by simp, ?_⟩
    · intro k x hx
      have hk : k < len := by have := lt_of_get hx; simpa using this
      have : X k = x := by simpa [hk] using hx
      subst this
      obtain ⟨_, c0, c1, c2⟩ := hX k hk
      obtain ⟨b, o, spot⟩ := a
      have z0 := (hX 0 (by omega)).2.1
      rw [Nat.zero_mul] at z0
      have hs : spot = none := by simpa [Addr.add] using World.cell?_spot z0
      subst hs
      simp only [Addr.add_lit] at c0 c1 c2
      refine ⟨b, o, rfl, ?_, c0, by rw [Nat.add_assoc]; exact c1, by rw [Nat.add_assoc]; exact c2⟩
      refine Nat.lt_of_not_le fun hge => ?_
      have : w.cell? ⟨b, o + k * 3, none⟩ = none := by
        simp [World.cell?, Array.getElem?_eq_none hge]
      rw [this] at c0; cases c0
    · intro y hy
      simp at hy
      obtain ⟨k, hk, rfl⟩ := hy
      exact (hX k hk).1
set_option maxRecDepth 100000 in
/-- an argument that is a sheet -/
theorem openSheet {r : Reach} {b0 : Nat} {v : Value} {d : DataW H} {ps : List MemPlace} (hv : Value.okWide Try.prog w r b0 24 v) (h : DataW.Trod enc Try.prog w 0 (fun _ => true) held 24 v d ps) :
    ∃ (p : Int) (A : Option Addr) (n c : Nat) (ws : List Wk), v = .agg #[.int .i64 p, .slice A n c] ∧ n ≤ c ∧ c ≤ 9223372036854775807 ∧ RdW w w.heap.size A ws ∧ ws.length = n ∧ (∀ y ∈ ws, y.word.size ≤ 9223372036854775807) := by
  obtain ⟨c0, c1, y0, y1, m, rfl, rfl, rfl, h0, h1⟩ := open_agg2 Try.underlying24 (by kernel_rfl) cellsSheet hv h
  obtain ⟨p, e0, _, _⟩ := DataW.trod_int Try.underlying3 h0
  simp at e0
  subst e0
  obtain ⟨A, n, c, ws, rfl, h2, h3, h4, h5, h6⟩ := cell_wks h1
  exact ⟨p, A, n, c, ws, rfl, h2, h3, h4, h5, h6⟩
set_option maxRecDepth 100000 in
/-- an argument that is a work -/
theorem openWork {r : Reach} {b0 : Nat} {v : Value} {d : DataW H} {ps : List MemPlace} {sp : Nat → Bool} (hv : Value.okWide Try.prog w r b0 86 v) (h : DataW.Trod enc Try.prog w 0 sp held 86 v d ps) :
    ∃ (k a : Int) (s : ByteArray), v = .agg #[.int .i64 k, .int .i64 a, .string s] ∧ s.size ≤ 9223372036854775807 := by
  obtain ⟨c0, c1, c2, y0, y1, y2, m, rfl, rfl, rfl, h0, h1, h2⟩ := open_agg3 Try.underlying86 (by kernel_rfl) cellsWk hv h
  obtain ⟨k, e0, _, _⟩ := DataW.trod_int Try.underlying3 h0
  obtain ⟨a, e1, _, _⟩ := DataW.trod_int Try.underlying3 h1
  obtain ⟨s, e2, _, hs⟩ := DataW.trod_string Try.underlying9 h2
  simp at e0 e1 e2
  subst e0 e1 e2
  exact ⟨k, a, s, rfl, Nat.le_trans hs maxLen_le⟩
end
end Go.Proofs.Ytaenafcecfdffaa
