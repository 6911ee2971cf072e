/-
  Plain words of chapter 16: the pillow that bytes say (Load).
-/
import Derived.Test.YtaenafcecfdffaaVB9
import Derived.Test.YtaenafcecfdffaaVB13
import Derived.Test.YtaenafcecfdffaaVB14
import Derived.Test.YtaenafcecfdffaaVB15
import Derived.Test.YtaenafcecfdffaaVB16
namespace Go.Proofs.Ytaenafcecfdffaa
open Go.RowKit
def riseB (os : List Int) (k : Nat) : Bool := (List.range k).all (fun i => i == 0 || decide (os.getD (i - 1) 0 < os.getD i 0))
theorem riseB_succ (os : List Int) (k : Nat) : riseB os (k + 1) = (riseB os k && (k == 0 || decide (os.getD (k - 1) 0 < os.getD k 0))) := by
  unfold riseB
  rw [List.range_succ, List.all_append]
  simp
theorem riseB_next (os : List Int) (j : Nat) : riseB os (j + 1 + 1) = (riseB os (j + 1) && decide (os.getD j 0 < os.getD (j + 1) 0)) := by
  rw [riseB_succ]
  rfl
theorem riseB_one (os : List Int) : riseB os (0 + 1) = true := by rw [riseB_succ]; rfl
theorem riseB_le {os : List Int} {k n : Nat} (h : riseB os k = false) (hk : k ≤ n) : riseB os n = false := by
  obtain ⟨d, rfl⟩ := Nat.exists_eq_add_of_le hk
  clear hk
  induction d with
  | zero => exact h
  | succ d ih => rw [← Nat.add_assoc, riseB_succ, ih]; rfl
def goRes (p s : Int) : Pil → List Wk → Int × Pil
  | z, [] => (0, z)
  | z, x :: l => if pilE p s z x = 0 then goRes p s (z.step x) l else (pilE p s z x, z)
def pullRes : Pil → List Int → Int × Pil
  | z, [] => (0, z)
  | z, i :: l => match z.ps[i.toNat]? with
    | none => (4, z)
    | some x => if pullE x = 0 then pullRes (z.pull i.toNat) l else (pullE x, z)
theorem pullRes_cons (z : Pil) (i : Int) (l : List Int) : pullRes z (i :: l) = match z.ps[i.toNat]? with
    | none => (4, z)
    | some x => if pullE x = 0 then pullRes (z.pull i.toNat) l else (pullE x, z) := rfl
def ldSv (v : Sv) : Int × Pil :=
  if csE v.p v.s [] ≠ 0 then (csE v.p v.s [], pil0 [])
  else if 1000 < v.steps.length then (3, pil0 [])
  else if (goRes v.p v.s (pil0 (lineN (2 * v.p.toNat))) v.steps).1 ≠ 0 then goRes v.p v.s (pil0 (lineN (2 * v.p.toNat))) v.steps
  else if riseB v.out v.out.length = false then (6, pil0 [])
  else pullRes (goRes v.p v.s (pil0 (lineN (2 * v.p.toNat))) v.steps).2 v.out
def ldP (b : List UInt8) : Int × Pil := if 40000 < b.length then (3, pil0 []) else if (rdP b).1 ≠ 0 then ((rdP b).1, pil0 []) else ldSv (rdP b).2
/-- how great a pillow behind n steps is -/
structure Bnd (p : Int) (z : Pil) (n : Nat) : Prop where
  steps : z.steps.length = n
  marks : z.marks.length = n
  works : z.works.length ≤ 400
  xs : z.xs.length ≤ 48 * n
  ps : z.ps.length ≤ 16 * n
  l : z.l.length = 2 * p.toNat
theorem Bnd.begin (p : Int) : Bnd p (pil0 (lineN (2 * p.toNat))) 0 := ⟨rfl, rfl, by show 0 ≤ 400; omega, Nat.le_refl _, Nat.le_refl _, lineN_len _⟩
theorem Bnd.step {p s : Int} {z : Pil} {n : Nat} {x : Wk} (h : Bnd p z n) (hE : pilE p s z x = 0) : Bnd p (z.step x) (n + 1) := by
  obtain ⟨_, _, _, hw, _, _, _, h8⟩ := pilE_zero hE
  obtain ⟨g1, g2, g3, g4, g5, g6⟩ := step_all z x (wchk_zero hw).1
  obtain ⟨h1, h2, h3, h4, h5, h6⟩ := h
  refine ⟨by omega, by omega, ?_, by omega, by omega, by omega⟩
  by_cases hk : x.kind = 1
  · have : (z.step x).works = z.works := by
      unfold Pil.step
      rw [if_pos hk]
      rfl
    rw [this]; exact h3
  · have := (h8 hk).1
    omega
theorem Bnd.pull {p : Int} {z : Pil} {n k : Nat} (h : Bnd p z n) : Bnd p (z.pull k) n := by
  unfold Pil.pull
  split
  · exact h
  · exact ⟨h.steps, h.marks, h.works, h.xs, by rw [List.length_set]; exact h.ps, h.l⟩
theorem goRes_all {p s : Int} : ∀ (l : List Wk) (z : Pil), goAll p s z l → goRes p s z l = (0, l.foldl Pil.step z)
  | [], z, _ => rfl
  | x :: l, z, h => by
    show (if pilE p s z x = 0 then goRes p s (z.step x) l else (pilE p s z x, z)) = _
    rw [if_pos h.1, goRes_all l _ h.2]
    rfl
end Go.Proofs.Ytaenafcecfdffaa
/-
  Contract of chapter 16: Load.
-/
namespace Go.Proofs.Ytaenafcecfdffaa
open Go.RowKit
set_option maxRecDepth 100000 in
set_option maxHeartbeats 2000000 in
theorem newN (p s : Int) (w : World) (hE : csE p s [] ≠ 0) :
    Calls Try.prog 11 #[.int .i64 p, .int .i64 s] w fun e w' => e = .returned (.tuple #[.pointer none, .int .i64 (csE p s [])]) ∧ Below w.heap.size w w' := by
  have CS := Lib.hid (csheet p s none 0 0 [] w (by decide) (fun k x hx => by simp at hx) rfl (fun x hx => by simp at hx))
  have e1 : (csE p s [] != 0) = true := by simpa using hE
  generalize csE p s [] = er at *
  clear hE
  go_enter Try.func11, Try.ntmps11
  go_wp2_with fail
  refine CS.out.mono ?_
  rintro e w1 ⟨p5, A5, n5, c5, b5, rfl, hb1⟩
  have HB := Lib.hid hb1
  clear hb1 CS
  go_wp2
  go_ret2
  exact ⟨rfl, bvia HB.out (by go_grown)⟩
theorem RowsH.base {W : World} {B B' g : Nat} {T : TypeId} {hd : List Value} {rs : List RowD} (h : RowsH W B g T hd rs) (hb : B' ≤ B) : RowsH W B' g T hd rs :=
  ⟨h.c, fun i r hi => own_mono (h.o i r hi) hb, h.d, h.t, Nat.le_trans hb h.b, Nat.le_trans hb h.z⟩
def RetLd (bs : List UInt8) (w : World) (e : Ending) (w' : World) : Prop :=
  Below w.heap.size w w' ∧ ((ldP bs).1 ≠ 0 ∧ e = .returned (.tuple #[.pointer none, .int .i64 (ldP bs).1]) ∨
    (ldP bs).1 = 0 ∧ ∃ g S M V L X P, e = .returned (.tuple #[.pointer (some ⟨g, 0, none⟩), .int .i64 0]) ∧ PilH w' w.heap.size g (rdP bs).2.p (rdP bs).2.s (ldP bs).2 S M V L X P)
set_option maxRecDepth 100000 in
set_option maxHeartbeats 4000000 in
theorem loadC (bs : List UInt8) (A : Option Addr) (n c : Nat) (w : World) (h : RdU8 w w.heap.size A bs) (hl : bs.length = n) (hc : n ≤ c) (hb : n ≤ 9223372036854775807) :
    Calls Try.prog 24 #[.slice A n c] w (RetLd bs w) := by
  subst hl
  by_cases h4 : 40000 < bs.length
  · have hP : ldP bs = (3, pil0 []) := by unfold ldP; rw [if_pos h4]
    have j4 : (40000 : Int) < (bs.length : Int) := by omega
    clear h
    go_enter Try.func24, Try.ntmps24
    go_wp2
    go_ret2
    exact ⟨Below.refl _ _, .inl ⟨by rw [hP]; decide, by rw [hP]; rfl⟩⟩
  have j4 : ¬ (40000 : Int) < (bs.length : Int) := by omega
  have CR := Lib.hid (readC bs A bs.length c w h rfl hc (by omega))
  clear h
  go_enter Try.func24, Try.ntmps24
  go_wp2_with fail
  refine CR.out.mono ?_
  rintro e w1 ⟨pv, sv, A1, A2, n1, c1, n2, c2, rfl, hb1, hv⟩
  have B1 := Lib.hid hb1
  clear hb1 CR
  by_cases he : (rdP bs).1 = 0
  case neg =>
    have hP : ldP bs = ((rdP bs).1, pil0 []) := by unfold ldP; rw [if_neg h4, if_pos he]
    have je : ((rdP bs).1 != 0) = true := by simpa using he
    have HE := Lib.hid he
    clear hv he
    generalize (rdP bs).1 = er at *
    go_wp2
    go_ret2
    exact ⟨bvia B1.out (by go_grown), .inl ⟨by rw [hP]; exact HE.out, by rw [hP]; rfl⟩⟩
  have hP : ldP bs = ldSv (rdP bs).2 := by unfold ldP; rw [if_neg h4, if_neg (by simpa using he)]
  obtain ⟨rfl, rfl, rfl, rfl, o1, o2⟩ := hv he
  rw [he]
  obtain ⟨hp0, hp1, hs0, hs1, hwd, hou, hsn, hon⟩ := rdP_bnd he
  obtain ⟨v, hv2⟩ : ∃ v, v = (rdP bs).2 := ⟨_, rfl⟩
  rw [← hv2] at hP hp0 hp1 hs0 hs1 hwd hou hsn hon o1 o2 ⊢
  clear hv
  have hwd' := Lib.hid hwd
  have hou' := Lib.hid hou
  have HE := Lib.hid he
  have HV := Lib.hid hv2
  clear hwd hou he hv2
  have S1 : Has (w1.alloc (.cells #[.int .i64 v.p, .int .i64 v.s, .slice A1 v.steps.length c1, .slice A2 v.out.length c2] 105)) w1.heap.size 105 [.int .i64 v.p, .int .i64 v.s, .slice A1 v.steps.length c1, .slice A2 v.out.length c2] := Has.new rfl
  have z1 := B1.out.size
  have k2 := (Below.refl w1.heap.size w1).alloc (Nat.le_refl _) (.cells #[.int .i64 v.p, .int .i64 v.s, .slice A1 v.steps.length c1, .slice A2 v.out.length c2] 105)
  have O1 := Lib.hid (own_below o1 k2)
  have O2 := Lib.hid (own_below o2 k2)
  have B2 := Lib.hid (bvia B1.out k2)
  have HS := Lib.hid S1
  have RW := Lib.hid (own_rdW o1)
  have RI := Lib.hid (own_rd1 o2)
  have HK2 := Lib.hid k2
  have q0 := S1.cell 0
  have q1 := S1.cell 1
  clear S1 k2 o1 o2
  by_cases hcs : csE v.p v.s [] = 0
  case neg =>
    have hP2 : ldP bs = (csE v.p v.s [], pil0 []) := by rw [hP]; unfold ldSv; rw [if_pos hcs]
    have CN := Lib.hid (fun W => newN v.p v.s W hcs)
    have jc : (csE v.p v.s [] != 0) = true := by simpa using hcs
    have HC := Lib.hid hcs
    clear hcs hP
    generalize csE v.p v.s [] = er at *
    go_wp2_with fail
    refine (CN.out _).mono ?_
    rintro e w3 ⟨rfl, hb3⟩
    have B3 := Lib.hid (bvia B2.out hb3)
    clear hb3 CN q0 q1
    go_wp2
    go_ret2
    exact ⟨B3.out, .inl ⟨by rw [hP2]; exact HC.out, by rw [hP2]; rfl⟩⟩
  have CN := Lib.hid (fun W => newC v.p v.s W hcs)
  go_wp2_with fail
  refine (CN.out _).mono ?_
  rintro e w3 ⟨⟨g, S, M, V, L, X, P, rfl, hH⟩, hb3⟩
  have B3 := Lib.hid (bvia B2.out hb3)
  rw [World.size_alloc] at hH
  have HP3 := Lib.hid hH
  have HS3 := Lib.hid (HS.out.below hb3 HS.out.lt)
  have HK3 := Lib.hid (bvia HK2.out hb3)
  clear hb3 CN q0 q1 hH HS O1 O2 B2 HK2
  have q2 : w3.cell? ⟨w1.heap.size, 2, none⟩ = some (.slice A1 v.steps.length c1) := HS3.out.cell 2
  have q3 : w3.cell? ⟨w1.heap.size, 3, none⟩ = some (.slice A2 v.out.length c2) := HS3.out.cell 3
  by_cases h1000 : 1000 < v.steps.length
  · have hP2 : ldP bs = (3, pil0 []) := by rw [hP]; unfold ldSv; rw [if_neg (by simpa using hcs), if_pos h1000]
    have jk : (1000 : Int) < (v.steps.length : Int) := by omega
    go_wp2
    go_ret2
    exact ⟨B3.out, .inl ⟨by rw [hP2]; decide, by rw [hP2]; rfl⟩⟩
  have jk : ¬ (1000 : Int) < (v.steps.length : Int) := by omega
  have hP3 : ldP bs = if (goRes v.p v.s (pil0 (lineN (2 * v.p.toNat))) v.steps).1 ≠ 0 then goRes v.p v.s (pil0 (lineN (2 * v.p.toNat))) v.steps
      else if riseB v.out v.out.length = false then (6, pil0 []) else pullRes (goRes v.p v.s (pil0 (lineN (2 * v.p.toNat))) v.steps).2 v.out := by
    rw [hP]; unfold ldSv; rw [if_neg (by simpa using hcs), if_neg h1000]
  have HP := Lib.hid hP3
  clear hP hP3
  have hp2 : 0 < v.p := by
    refine Decidable.byContradiction fun h => ?_
    unfold csE at hcs
    rw [if_pos (by omega)] at hcs
    cases hcs
  obtain ⟨z0, hz0⟩ : ∃ z0, z0 = pil0 (lineN (2 * v.p.toNat)) := ⟨_, rfl⟩
  have BD0 : Hid (Bnd v.p z0 0) := by rw [hz0]; exact Bnd.begin _
  rw [← hz0] at HP HP3
  clear hz0 hcs
  go_wp2
  go_loopw [43] (fun i wr => ∃ (k : Nat) (z : Pil) (S M V L X P : Value), k ≤ v.steps.length ∧ i = .int .i64 (k : Int) ∧ Hid (PilH wr (w1.heap.size + 1) g v.p v.s z S M V L X P) ∧ Hid (Bnd v.p z k) ∧ Hid (goRes v.p v.s z0 v.steps = goRes v.p v.s z (v.steps.drop k)) ∧ Hid (Below (w1.heap.size + 1) w3 wr)) (fun i _ => v.steps.length - (intOf i).toNat)
  case atStart => exact ⟨0, z0, S, M, V, L, X, P, Nat.zero_le _, rfl, HP3, BD0, rfl, Below.refl _ _⟩
  case round =>
    clear HP3 BD0
    obtain ⟨k, z, S, M, V, L, X, P, hk, rfl, HP1, HB, HG, HBW⟩ := hrel
    obtain ⟨wo, rfl⟩ : ∃ wo : World, wo = wr := ⟨_, rfl⟩
    have HK4 := Lib.hid (HK3.out.trans (HBW.out.mono (Nat.le_succ _)))
    by_cases hlt : k < v.steps.length
    · have jk2 : (k : Int) < (v.steps.length : Int) := by omega
      obtain ⟨x, hx⟩ := get_of_lt hlt
      obtain ⟨be, o, hA, hbe, c0, c1', c2'⟩ := (RW.out.up HK4.out) k x hx
      subst hA
      have hdr : v.steps.drop k = x :: v.steps.drop (k + 1) := by
        obtain ⟨hl, hx'⟩ := List.getElem?_eq_some_iff.1 hx
        rw [← hx']; exact List.drop_eq_getElem_cons hl
      have hG2 : goRes v.p v.s z0 v.steps = if pilE v.p v.s z x = 0 then goRes v.p v.s (z.step x) (v.steps.drop (k + 1)) else (pilE v.p v.s z x, z) := by rw [HG.out, hdr]; rfl
      have hxw := hwd'.out x (mem_of_get hx)
      obtain ⟨b1, b2, b3, b4, b5, b6⟩ := HB.out
      clear hdr HG hx
      by_cases hE : pilE v.p v.s z x = 0
      · rw [if_pos hE] at hG2
        have HG2 := Lib.hid hG2
        have HB2 := Lib.hid (HB.out.step hE)
        have CD := Lib.hid (fun W (hP : PilH W (w1.heap.size + 1) g v.p v.s z S M V L X P) => doC (w1.heap.size + 1) g v.p v.s z S M V L X P x W hP (by omega) (by omega) (by omega) b3 (by omega) (by omega) b6 hE)
        clear hG2 hE b1 b2 b3 b4 b5 b6 HB
        have HPa := Lib.hid (RowsH.below HP1.out ((Below.refl _ wo).alloc (Nat.le_refl _) (.cells #[.int .i64 x.kind, .int .i64 x.at_, .string x.word] 35)))
        have HBa := Lib.hid (HBW.out.trans (((Below.refl _ wo).alloc (Nat.le_refl _) (.cells #[.int .i64 x.kind, .int .i64 x.at_, .string x.word] 35)).mono HP1.out.z))
        clear HP1 HBW HK4
        go_wp2_with fail
        refine (CD.out _ HPa.out).mono ?_
        rintro e w4 ⟨rfl, ⟨S4, M4, V4, L4, X4, P4, h4, _⟩, hb4⟩
        have H4 := Lib.hid h4
        have B4 := Lib.hid (HBa.out.trans hb4)
        clear h4 hb4 CD HPa HBa c0 c1' c2'
        go_wp2
        refine ⟨⟨k + 1, z.step x, S4, M4, V4, L4, X4, P4, by omega, by go_num, H4, HB2, HG2, B4⟩, ?_⟩
        first | (simp [intOf]; done) | (simp [intOf]; omega)
      · rw [if_neg hE] at hG2
        have hP9 : ldP bs = (pilE v.p v.s z x, z) := by
          rw [HP.out, hG2]
          exact if_pos hE
        have CD := Lib.hid (fun W (hP : PilH W (w1.heap.size + 1) g v.p v.s z S M V L X P) => doErr (w1.heap.size + 1) g v.p v.s z S M V L X P x.kind x.at_ x.word W hP (by omega) (by omega) (by omega) hE)
        have HE9 := Lib.hid hE
        have HPa := Lib.hid (RowsH.below HP1.out ((Below.refl _ wo).alloc (Nat.le_refl _) (.cells #[.int .i64 x.kind, .int .i64 x.at_, .string x.word] 35)))
        have HBo := Lib.hid (B3.out.trans (HBW.out.mono (show w.heap.size ≤ w1.heap.size + 1 by omega)))
        have HBa := Lib.hid (bvia HBo.out ((Below.refl wo.heap.size wo).alloc (Nat.le_refl _) (.cells #[.int .i64 x.kind, .int .i64 x.at_, .string x.word] 35)))
        have je : (pilE v.p v.s z x != 0) = true := by simpa using hE
        obtain ⟨er, her⟩ : ∃ er, er = pilE v.p v.s z x := ⟨_, rfl⟩
        have CD2 : Hid (∀ W, PilH W (w1.heap.size + 1) g v.p v.s z S M V L X P → Calls Try.prog 12 #[.pointer (some ⟨g, 0, none⟩), .agg #[.int .i64 x.kind, .int .i64 x.at_, .string x.word]] W fun e w' => e = .returned (.int .i64 er) ∧ PilH w' (w1.heap.size + 1) g v.p v.s z S M V L X P ∧ Below W.heap.size W w') := by
          rw [her]; exact CD.out
        have HE9 : Hid (er ≠ 0) := by rw [her]; exact hE
        rw [← her] at je hP9
        clear hG2 hE b1 b2 b3 b4 b5 b6 HB HP1 HBW HBo HK4 CD her
        go_wp2_with fail
        refine (CD2.out _ HPa.out).mono ?_
        rintro e w4 ⟨rfl, _, hb4⟩
        have B4 := Lib.hid (bvia HBa.out hb4)
        clear hb4 CD2 HPa HBa c0 c1' c2'
        go_wp2
        go_ret2
        exact ⟨B4.out, .inl ⟨by rw [hP9]; exact HE9.out, by rw [hP9]; rfl⟩⟩
    · obtain rfl : k = v.steps.length := by omega
      have jk2 : ¬ (v.steps.length : Int) < (v.steps.length : Int) := by omega
      have hP9 : ldP bs = if riseB v.out v.out.length = false then (6, pil0 []) else pullRes z v.out := by
        rw [HP.out, HG.out, List.drop_length]
        rfl
      have HP9 := Lib.hid hP9
      have hS4 := HS3.out.below HBW.out (Nat.lt_succ_self _)
      have q3' : wo.cell? ⟨w1.heap.size, 3, none⟩ = some (.slice A2 v.out.length c2) := hS4.cell 3
      have HS4 := Lib.hid hS4
      clear hP9 HP HG hS4 HS3
      go_wp2
      go_loopw [57] (fun i wr => ∃ (k : Nat), k ≤ v.out.length ∧ i = .int .i64 (k : Int) ∧ Hid (riseB v.out k = true) ∧ Hid (PilH wr (w1.heap.size + 1) g v.p v.s z S M V L X P) ∧ Hid (Has wr w1.heap.size 105 [.int .i64 v.p, .int .i64 v.s, .slice A1 v.steps.length c1, .slice A2 v.out.length c2]) ∧ Hid (Below (w1.heap.size + 1) w3 wr)) (fun i _ => v.out.length - (intOf i).toNat)
      case atStart => exact ⟨0, Nat.zero_le _, rfl, rfl, HP1, HS4, HBW⟩
      case round =>
        clear HP1 HBW HK4
        obtain ⟨k, hk, rfl, HR, HP1, HS4, HBW⟩ := hrel
        obtain ⟨wq, rfl⟩ : ∃ wq : World, wq = wr := ⟨_, rfl⟩
        have HK4 := Lib.hid (HK3.out.trans (HBW.out.mono (Nat.le_succ _)))
        have q3 : wq.cell? ⟨w1.heap.size, 3, none⟩ = some (.slice A2 v.out.length c2) := HS4.out.cell 3
        by_cases hlt : k < v.out.length
        · have jk3 : (k : Int) < (v.out.length : Int) := by omega
          obtain ⟨y, hy⟩ := get_of_lt hlt
          obtain ⟨b2, o2, hA, hb2, cy⟩ := (RI.out.up HK4.out) k y hy
          subst hA
          cases k with
          | zero =>
            have jz : ¬ (0 : Int) < ((0 : Nat) : Int) := by omega
            have HR2 : Hid (riseB v.out (0 + 1) = true) := riseB_one _
            go_wp2
            go_big_quiet (fail)
            go_wp2
            refine ⟨⟨1, by omega, rfl, HR2, (RowsH.drewN HP1.out nq), (HS4.out.drewN nq), ⟨HBW.out.os, HBW.out.tape, HBW.out.output, HBW.out.size, HBW.out.block⟩⟩, ?_⟩
            first | (simp [intOf]; done) | (simp [intOf]; omega)
          | succ j =>
            obtain ⟨x, hx⟩ := get_of_lt (l := v.out) (k := j) (by omega)
            obtain ⟨b2', o2', hA', _, cx⟩ := (RI.out.up HK4.out) j x hx
            injection hA' with hA'
            injection hA' with e1 e2
            subst e1 e2
            have jz : (0 : Int) < ((j + 1 : Nat) : Int) := by omega
            have j1 : ((j + 1 : Nat) : Int) - 1 = (j : Int) := by omega
            have j2 : IntKind.i64.wrap (j : Int) = (j : Int) := IntWalk.i64_in _ (by omega)
            have jx : (j : Int) < (v.out.length : Int) := by omega
            have hgx : v.out.getD j 0 = x := by rw [List.getD_eq_getElem?_getD, hx]; rfl
            have hgy : v.out.getD (j + 1) 0 = y := by rw [List.getD_eq_getElem?_getD, hy]; rfl
            by_cases hxy : x < y
            · have jxy : ¬ y ≤ x := by omega
              have HR2 : Hid (riseB v.out (j + 1 + 1) = true) := by
                show riseB v.out (j + 1 + 1) = true
                rw [riseB_next, HR.out, hgx, hgy, decide_eq_true hxy]
                rfl
              clear HR hgx hgy hx hy
              go_wp2
              go_big_quiet (fail)
              go_wp2
              refine ⟨⟨j + 1 + 1, by omega, by go_num, HR2, (RowsH.drewN HP1.out nq), (HS4.out.drewN nq), ⟨HBW.out.os, HBW.out.tape, HBW.out.output, HBW.out.size, HBW.out.block⟩⟩, ?_⟩
              first | (simp [intOf]; done) | (simp [intOf]; omega)
            · have jxy : y ≤ x := by omega
              have hrf : riseB v.out (j + 1 + 1) = false := by
                rw [riseB_next, HR.out, hgx, hgy, decide_eq_false hxy]
                rfl
              have hP10 : ldP bs = (6, pil0 []) := by rw [HP9.out, if_pos (riseB_le hrf (by omega))]
              clear HR hgx hgy hx hy hrf
              go_wp2
              go_big_quiet (fail)
              go_wp2
              go_ret2
              exact ⟨B3.out.trans (Below.mono ⟨HBW.out.os, HBW.out.tape, HBW.out.output, HBW.out.size, HBW.out.block⟩ (show w.heap.size ≤ w1.heap.size + 1 by omega)), .inl ⟨by rw [hP10]; decide, by rw [hP10]; rfl⟩⟩
        · obtain rfl : k = v.out.length := by omega
          have jk3 : ¬ (v.out.length : Int) < (v.out.length : Int) := by omega
          have hP10 : ldP bs = pullRes z v.out := by
            rw [HP9.out, HR.out]
            exact if_neg (by decide)
          have HP10 := Lib.hid hP10
          clear hP10 HP9 HR
          go_wp2
          go_loopw [80] (fun i wr => ∃ (k : Nat) (z' : Pil), k ≤ v.out.length ∧ i = .int .i64 (k : Int) ∧ Hid (pullRes z v.out = pullRes z' (v.out.drop k)) ∧ Hid (Bnd v.p z' v.steps.length) ∧ Hid (PilH wr (w1.heap.size + 1) g v.p v.s z' S M V L X P) ∧ Hid (Below (w1.heap.size + 1) w3 wr)) (fun i _ => v.out.length - (intOf i).toNat)
          case atStart => exact ⟨0, z, Nat.zero_le _, rfl, rfl, HB, HP1, HBW⟩
          case round =>
            clear HP1 HBW HK4 HB HS4 q3
            obtain ⟨k, z', hk, rfl, HR, HB, HP1, HBW⟩ := hrel
            obtain ⟨wt, rfl⟩ : ∃ wt : World, wt = wr := ⟨_, rfl⟩
            by_cases hlt : k < v.out.length
            · have jk4 : (k : Int) < (v.out.length : Int) := by omega
              obtain ⟨y, hy⟩ := get_of_lt hlt
              have HK4 := Lib.hid (HK3.out.trans (HBW.out.mono (Nat.le_succ _)))
              obtain ⟨b2, o2, hA, hb2, cy⟩ := (RI.out.up HK4.out) k y hy
              subst hA
              have hdr : v.out.drop k = y :: v.out.drop (k + 1) := by
                obtain ⟨hl, hx'⟩ := List.getElem?_eq_some_iff.1 hy
                rw [← hx']; exact List.drop_eq_getElem_cons hl
              obtain ⟨y0, y1⟩ := hou'.out y (mem_of_get hy)
              have hR2 := HR.out
              rw [hdr, pullRes_cons] at hR2
              clear hdr HR hy HK4
              obtain ⟨t, rfl⟩ := Int.eq_ofNat_of_zero_le y0
              rw [Int.toNat_natCast] at hR2
              have HBt := Lib.hid (B3.out.trans (HBW.out.mono (show w.heap.size ≤ w1.heap.size + 1 by omega)))
              cases hz : z'.ps[t]? with
              | none =>
                rw [hz] at hR2
                have hP11 : ldP bs = (4, z') := by rw [HP10.out, hR2]
                have hle : z'.ps.length ≤ t := List.getElem?_eq_none_iff.1 hz
                have CP := Lib.hid (pullN (w1.heap.size + 1) g v.p v.s z' S M V L X P t wt HP1.out hp2 hle (by omega))
                clear hz hR2 hle HP10 HP1 HBW HB
                go_wp2_with fail
                refine CP.out.mono ?_
                rintro e w5 ⟨rfl, rfl⟩
                go_wp2
                go_ret2
                exact ⟨HBt.out, .inl ⟨by rw [hP11]; show (4 : Int) ≠ 0; decide, by rw [hP11]; rfl⟩⟩
              | some x =>
                rw [hz] at hR2
                have CP := Lib.hid (pullK (w1.heap.size + 1) g v.p v.s z' S M V L X P t x wt HP1.out hp2 hz)
                by_cases hx0 : pullE x = 0
                · have hR3 : pullRes z v.out = pullRes (z'.pull t) (v.out.drop (k + 1)) := hR2.trans (if_pos hx0)
                  have HR3 := Lib.hid hR3
                  have HB3 := Lib.hid (HB.out.pull (k := t))
                  have CP2 : Hid (Calls Try.prog 22 #[.pointer (some ⟨g, 0, none⟩), .int .i64 (t : Int)] wt fun e w' => e = .returned (.int .i64 0) ∧ PilH w' (w1.heap.size + 1) g v.p v.s (z'.pull t) S M V L X P ∧ Below (w1.heap.size + 1) wt w' ∧ KeepB (fun r => P.ownBlock = some r) wt w') := by
                    have := CP.out
                    unfold Pil.pulled at this
                    rw [if_pos hx0, hx0] at this
                    exact this
                  clear hz hR2 hR3 hx0 CP HB HP1
                  go_wp2_with fail
                  refine CP2.out.mono ?_
                  rintro e w5 ⟨rfl, h5, hb5, _⟩
                  have H5 := Lib.hid h5
                  have B5 := Lib.hid (HBW.out.trans hb5)
                  clear h5 hb5 CP2 HBW HBt
                  go_wp2
                  refine ⟨⟨k + 1, z'.pull t, by omega, by go_num, HR3, HB3, H5, B5⟩, ?_⟩
                  first | (simp [intOf]; done) | (simp [intOf]; omega)
                · have hP11 : ldP bs = (pullE x, z') := by rw [HP10.out, hR2]; exact if_neg hx0
                  have je : (pullE x != 0) = true := by simpa using hx0
                  have HE9 := Lib.hid hx0
                  clear hz hR2 hx0 HP10 HP1 HB
                  generalize pullE x = er at *
                  go_wp2_with fail
                  refine CP.out.mono ?_
                  rintro e w5 ⟨rfl, _, hb5, _⟩
                  have B5 := Lib.hid (HBt.out.trans (hb5.mono (show w.heap.size ≤ w1.heap.size + 1 by omega)))
                  clear hb5 CP HBW HBt
                  go_wp2
                  go_ret2
                  exact ⟨B5.out, .inl ⟨by rw [hP11]; exact HE9.out, by rw [hP11]; rfl⟩⟩
            · obtain rfl : k = v.out.length := by omega
              have jk4 : ¬ (v.out.length : Int) < (v.out.length : Int) := by omega
              have hP11 : ldP bs = (0, z') := by
                rw [HP10.out, HR.out, List.drop_length]
                rfl
              go_wp2
              go_ret2
              refine ⟨B3.out.trans (HBW.out.mono (show w.heap.size ≤ w1.heap.size + 1 by omega)), .inr ⟨by rw [hP11], g, S, M, V, L, X, P, rfl, ?_⟩⟩
              rw [hP11, ← HV.out]
              exact RowsH.base HP1.out (show w.heap.size ≤ w1.heap.size + 1 by omega)
end Go.Proofs.Ytaenafcecfdffaa
/-
  Contracts of chapter 16: two pillows side by side, sameBytes and Hands; a pillow that is saved and loaded.
-/
namespace Go.Proofs.Ytaenafcecfdffaa
open Go.RowKit
set_option maxRecDepth 100000 in
set_option maxHeartbeats 2000000 in
theorem handsC (B g : Nat) (p s : Int) (z : Pil) (S M V L X P : Value) (W : World) (h : PilH W B g p s z S M V L X P) (hp : 0 < p) :
    Calls Try.prog 29 #[.pointer (some ⟨g, 0, none⟩)] W fun e w' => e = .returned (.int .i64 z.hands) ∧ W = w' := by
  have a2 : W.cell? ⟨g, 2, none⟩ = some (.int .i64 z.hands) := RowsH.cell h 2
  have CM := Lib.hid (madeC g p W hp (RowsH.cell h 0))
  have hg := h.c.lt
  clear h
  go_enter Try.func29, Try.ntmps29
  go_wp2_with fail
  refine CM.out.mono ?_
  rintro e w1 ⟨rfl, rfl⟩
  go_wp2
  go_ret
  exact ⟨rfl, rfl⟩
set_option maxRecDepth 100000 in
set_option maxHeartbeats 2000000 in
theorem sameBytesC (A B : Option Addr) (n c d : Nat) (xs : List UInt8) (w : World) (hA : RdU8 w w.heap.size A xs) (hB : RdU8 w w.heap.size B xs) (hl : xs.length = n) :
    Calls Try.prog 27 #[.slice A n c, .slice B n d] w fun e w' => e = .returned (.bool true) ∧ w = w' := by
  have c1 := str_conv (c := c) hA hl
  have c2 := str_conv (c := d) hB hl
  clear hA hB
  go_enter Try.func27, Try.ntmps27
  go_wp2
  go_ret
  exact ⟨by simp, rfl⟩
def OneP (W : World) (B g : Nat) (p s : Int) (z : Pil) : Prop := ∃ S M V L X P, PilH W B g p s z S M V L X P
/-- two pillows that share nothing -/
def TwoP (W : World) (B g h : Nat) (p s : Int) (z y : Pil) : Prop :=
  ∃ S M V L X P S' M' V' L' X' P', PilH W B g p s z S M V L X P ∧ PilH W B h p s y S' M' V' L' X' P' ∧ ∀ b, blkV g [S, M, V, L, X, P] b → ¬ blkV h [S', M', V', L', X', P'] b
section
variable {W W' : World} {B g h : Nat} {p s : Int} {z y : Pil}
theorem TwoP.left (k : TwoP W B g h p s z y) : OneP W B g p s z := by
  obtain ⟨S, M, V, L, X, P, _, _, _, _, _, _, h1, _, _⟩ := k
  exact ⟨S, M, V, L, X, P, h1⟩
theorem TwoP.right (k : TwoP W B g h p s z y) : OneP W B h p s y := by
  obtain ⟨_, _, _, _, _, _, S, M, V, L, X, P, _, h2, _⟩ := k
  exact ⟨S, M, V, L, X, P, h2⟩
theorem TwoP.swap (k : TwoP W B g h p s z y) : TwoP W B h g p s y z := by
  obtain ⟨S, M, V, L, X, P, S', M', V', L', X', P', h1, h2, h3⟩ := k
  exact ⟨S', M', V', L', X', P', S, M, V, L, X, P, h2, h1, fun b hb hb' => h3 b hb' hb⟩
theorem OneP.below (k : OneP W B g p s z) (hb : Below W.heap.size W W') : OneP W' B g p s z := by
  obtain ⟨S, M, V, L, X, P, h1⟩ := k
  exact ⟨S, M, V, L, X, P, RowsH.below h1 hb⟩
theorem TwoP.below (k : TwoP W B g h p s z y) (hb : Below W.heap.size W W') : TwoP W' B g h p s z y := by
  obtain ⟨S, M, V, L, X, P, S', M', V', L', X', P', h1, h2, h3⟩ := k
  exact ⟨S, M, V, L, X, P, S', M', V', L', X', P', RowsH.below h1 hb, RowsH.below h2 hb, h3⟩
theorem OneP.size_le (k : OneP W B g p s z) : B ≤ W.heap.size := by
  obtain ⟨S, M, V, L, X, P, h1⟩ := k
  exact RowsH.z h1
theorem pil_keep {S M V L X P : Value} {T : Nat → Prop} (h1 : PilH W B g p s z S M V L X P) (k : KeepB T W W') (hT : ∀ b, blkV g [S, M, V, L, X, P] b → ¬ T b) : PilH W' B g p s z S M V L X P :=
  RowsH.keep h1 k (hT g (.inl rfl)) (fun _ r b hi hb => hT b (.inr ⟨r.v, pilK_mem hi, hb⟩))
/-- a second pillow, made behind the first one -/
theorem TwoP.make {S M V L X P : Value} {W2 : World} (h1 : OneP W B g p s z) (hb : Below W.heap.size W W2) (h2 : PilH W2 W.heap.size h p s y S M V L X P) : TwoP W2 B g h p s z y := by
  obtain ⟨S0, M0, V0, L0, X0, P0, h1⟩ := h1
  refine ⟨S0, M0, V0, L0, X0, P0, S, M, V, L, X, P, RowsH.below h1 hb, RowsH.base h2 (RowsH.z h1), fun b hb hb' => ?_⟩
  have q1 := pilK_lt h1 hb
  rcases hb' with rfl | ⟨v, hv, hb'⟩
  · have := RowsH.b h2; omega
  · have := (pilK_row h2 hv hb').1; omega
theorem OneP.do_ {x : Wk} {n : Nat} (k : OneP W B g p s z) (hB : Bnd p z n) (hn : n < 1000) (hE : pilE p s z x = 0) :
    Calls Try.prog 12 #[.pointer (some ⟨g, 0, none⟩), .agg #[.int .i64 x.kind, .int .i64 x.at_, .string x.word]] W fun e w' => e = .returned (.int .i64 0) ∧ OneP w' B g p s (z.step x) ∧ Below B W w' := by
  obtain ⟨S, M, V, L, X, P, h1⟩ := k
  obtain ⟨b1, b2, b3, b4, b5, b6⟩ := hB
  have hw := (wchk_zero (pilE_zero hE).2.2.2.1).1
  refine (doC B g p s z S M V L X P x W h1 (by omega) (by omega) (by omega) b3 (by omega) (by omega) b6 hE).mono ?_
  rintro e w' ⟨rfl, ⟨S1, M1, V1, L1, X1, P1, h2, _⟩, hb⟩
  exact ⟨rfl, ⟨S1, M1, V1, L1, X1, P1, h2⟩, hb⟩
theorem TwoP.doL {x : Wk} {n : Nat} (k : TwoP W B g h p s z y) (hB : Bnd p z n) (hn : n < 1000) (hE : pilE p s z x = 0) :
    Calls Try.prog 12 #[.pointer (some ⟨g, 0, none⟩), .agg #[.int .i64 x.kind, .int .i64 x.at_, .string x.word]] W fun e w' => e = .returned (.int .i64 0) ∧ TwoP w' B g h p s (z.step x) y ∧ Below B W w' := by
  obtain ⟨S, M, V, L, X, P, S', M', V', L', X', P', h1, h2, h3⟩ := k
  obtain ⟨b1, b2, b3, b4, b5, b6⟩ := hB
  have hw := (wchk_zero (pilE_zero hE).2.2.2.1).1
  refine (doC B g p s z S M V L X P x W h1 (by omega) (by omega) (by omega) b3 (by omega) (by omega) b6 hE).mono ?_
  rintro e w' ⟨rfl, ⟨S1, M1, V1, L1, X1, P1, h1', hg⟩, hb⟩
  refine ⟨rfl, ⟨S1, M1, V1, L1, X1, P1, S', M', V', L', X', P', h1', pil_keep h2 hg.keep (fun b hb hb' => h3 b hb' hb), fun b hb' hb'' => ?_⟩, hb⟩
  rcases hg.fresh b hb' with e | e
  · exact h3 b e hb''
  · have := pilK_lt h2 hb''; omega
theorem TwoP.doR {x : Wk} {n : Nat} (k : TwoP W B g h p s z y) (hB : Bnd p y n) (hn : n < 1000) (hE : pilE p s y x = 0) :
    Calls Try.prog 12 #[.pointer (some ⟨h, 0, none⟩), .agg #[.int .i64 x.kind, .int .i64 x.at_, .string x.word]] W fun e w' => e = .returned (.int .i64 0) ∧ TwoP w' B g h p s z (y.step x) ∧ Below B W w' := by
  refine (k.swap.doL hB hn hE).mono ?_
  rintro e w' ⟨rfl, h1, hb⟩
  exact ⟨rfl, h1.swap, hb⟩
theorem TwoP.pullR {k : Nat} {x : Pn} (q : TwoP W B g h p s z y) (hp : 0 < p) (hx : y.ps[k]? = some x) (hE : pullE x = 0) :
    Calls Try.prog 22 #[.pointer (some ⟨h, 0, none⟩), .int .i64 (k : Int)] W fun e w' => e = .returned (.int .i64 0) ∧ TwoP w' B g h p s z (y.pull k) ∧ Below B W w' := by
  obtain ⟨S, M, V, L, X, P, S', M', V', L', X', P', h1, h2, h3⟩ := q
  refine (pullK B h p s y S' M' V' L' X' P' k x W h2 hp hx).mono ?_
  rintro e w' ⟨rfl, h4, hb, hk⟩
  unfold Pil.pulled at h4
  rw [if_pos hE] at h4
  exact ⟨by rw [hE], ⟨S, M, V, L, X, P, S', M', V', L', X', P', pil_keep h1 hk (fun b hb hb' => h3 b hb (.inr ⟨P', by simp, hb'⟩)), h4, h3⟩, hb⟩
theorem OneP.save (k : OneP W B g p s z) {n : Nat} (hB : Bnd p z n) (hn : n ≤ 1000) (hp : 0 < p) (hw : ∀ x ∈ z.steps, x.word.size ≤ 16) :
    Calls Try.prog 20 #[.pointer (some ⟨g, 0, none⟩)] W (RetU8 (saveB p s z) W) := by
  obtain ⟨S, M, V, L, X, P, h1⟩ := k
  obtain ⟨b1, b2, b3, b4, b5, b6⟩ := hB
  exact saveC B g p s z S M V L X P W h1 hp (by omega) (by omega) (fun x hx => by have := hw x hx; omega)
theorem OneP.line (k : OneP W B g p s z) {n : Nat} (hB : Bnd p z n) (hp : 0 < p ∧ p ≤ 24) :
    Calls Try.prog 18 #[.pointer (some ⟨g, 0, none⟩)] W (RetO z.l W) := by
  obtain ⟨S, M, V, L, X, P, h1⟩ := k
  exact lineC B g p s z S M V L X P W h1 hp.1 (by have := hB.l; omega)
theorem OneP.cloth (k : OneP W B g p s z) {n : Nat} (hB : Bnd p z n) (hn : n ≤ 1000) (hp : 0 < p ∧ p ≤ 24) :
    Calls Try.prog 15 #[.pointer (some ⟨g, 0, none⟩)] W (RetCl (2 * p) z.xs (z.ps.map Pn.q) W) := by
  obtain ⟨S, M, V, L, X, P, h1⟩ := k
  have := hB.xs
  have := hB.ps
  exact clothC B g p s z S M V L X P W h1 hp (by omega) (by omega)
theorem OneP.stand (k : OneP W B g p s z) {n : Nat} (hB : Bnd p z n) (hn : n ≤ 1000) (hp : 0 < p) :
    Calls Try.prog 28 #[.pointer (some ⟨g, 0, none⟩)] W (RetO (standL z.ps z.ps.length) W) := by
  obtain ⟨S, M, V, L, X, P, h1⟩ := k
  have := hB.ps
  exact standC B g p s z S M V L X P W h1 hp (by omega)
theorem OneP.sheet (k : OneP W B g p s z) {n : Nat} (hB : Bnd p z n) (hp : 0 < p) :
    Calls Try.prog 14 #[.pointer (some ⟨g, 0, none⟩)] W fun e w' => ∃ A n c, e = .returned (.agg #[.int .i64 p, .slice A n c]) ∧ RdW w' w'.heap.size A z.works ∧ z.works.length = n ∧ n ≤ 1000 ∧ Below W.heap.size W w' := by
  obtain ⟨S, M, V, L, X, P, h1⟩ := k
  have := hB.works
  exact sheetC B g p s z S M V L X P W h1 hp (by omega)
theorem OneP.hands (k : OneP W B g p s z) (hp : 0 < p) :
    Calls Try.prog 29 #[.pointer (some ⟨g, 0, none⟩)] W fun e w' => e = .returned (.int .i64 z.hands) ∧ W = w' := by
  obtain ⟨S, M, V, L, X, P, h1⟩ := k
  exact handsC B g p s z S M V L X P W h1 hp
end
/-! ### saved and loaded -/
theorem step_shape {p s : Int} {z : Pil} {x : Wk} (hE : pilE p s z x = 0) : 0 ≤ x.kind ∧ x.kind < 256 ∧ 0 ≤ x.at_ ∧ x.at_ < 256 ∧ x.word.size ≤ 16 := by
  obtain ⟨⟨h1, h2⟩, h3, h4, h5, h6, h7, _⟩ := pilE_zero hE
  have hk : x.kind = 1 ∨ x.kind = 2 ∨ x.kind = 3 := by
    unfold shapeB at h4
    split at h4
    · omega
    · have := eq_of_beq h4
      omega
  have := (wchk_zero h5).1
  omega
structure Fine (p : Int) (z : Pil) (n : Nat) : Prop where
  b : Bnd p z n
  st : ∀ x ∈ z.steps, 0 ≤ x.kind ∧ x.kind < 256 ∧ 0 ≤ x.at_ ∧ x.at_ < 256 ∧ x.word.size ≤ 16
  out : ∀ x ∈ z.ps, x.out = false
theorem Fine.begin (p : Int) : Fine p (pil0 (lineN (2 * p.toNat))) 0 := ⟨Bnd.begin p, (fun x hx => by cases hx), (fun x hx => by cases hx)⟩
theorem crosses_ps (z : Pil) (mid : Nat) (ns : List Int) (j : Nat) : (z.crosses mid ns j).ps = z.ps := (Pil.crosses_all z mid ns j).2.2.2.2.1
theorem letters_out (z : Pil) (mid : Nat) (bs : List UInt8) (h : ∀ x ∈ z.ps, x.out = false) : ∀ k, ∀ x ∈ (z.letters mid bs k).ps, x.out = false
  | 0 => h
  | k + 1 => by
    have ih := letters_out z mid bs h k
    cases hk : bs[k]? with
    | none =>
      have e : z.letters mid bs (k + 1) = z.letters mid bs k := by show (match bs[k]? with | none => _ | some c => _) = _; rw [hk]
      rw [e]; exact ih
    | some c =>
      rw [Pil.letters_succ hk]
      unfold Pil.letter
      split
      · intro x hx
        rcases List.mem_append.1 hx with hx | hx
        · exact ih x hx
        · rw [List.mem_singleton.1 hx]
      · rw [crosses_ps]; exact ih
theorem step_out (z : Pil) (x : Wk) (h : ∀ x ∈ z.ps, x.out = false) : ∀ y ∈ (z.step x).ps, y.out = false := by
  unfold Pil.step
  split
  · exact h
  split
  · intro y hy
    rcases List.mem_append.1 hy with hy | hy
    · exact h y hy
    · rw [List.mem_singleton.1 hy]
  · exact letters_out (z.note x) _ _ h _
theorem step_steps (z : Pil) (x : Wk) : (z.step x).steps = z.steps ++ [x] := by
  unfold Pil.step
  split
  · rfl
  split
  · rfl
  · exact (Pil.letters_all (z.note x) (stepMid x) x.word.data.toList x.word.data.toList.length).2.2.1
theorem Fine.step {p s : Int} {z : Pil} {n : Nat} {x : Wk} (h : Fine p z n) (hE : pilE p s z x = 0) : Fine p (z.step x) (n + 1) := by
  refine ⟨h.b.step hE, fun y hy => ?_, step_out z x h.out⟩
  rw [step_steps] at hy
  rcases List.mem_append.1 hy with hy | hy
  · exact h.st y hy
  · rw [List.mem_singleton.1 hy]; exact step_shape hE
theorem outL_none {ps : List Pn} (h : ∀ x ∈ ps, x.out = false) : ∀ k, outL ps k = []
  | 0 => rfl
  | k + 1 => by
    cases hk : ps[k]? with
    | none =>
      have e : outL ps (k + 1) = outL ps k := by show (match ps[k]? with | none => _ | some x => _) = _; rw [hk]
      rw [e]; exact outL_none h k
    | some x =>
      rw [outL_succ hk, h x (mem_of_get hk)]
      exact outL_none h k
theorem zRun_steps (z : Pil) (l : List Wk) : ∀ k, k ≤ l.length → (zRun z l k).steps = z.steps ++ l.take k
  | 0, _ => by show z.steps = _; rw [List.take_zero, List.append_nil]
  | k + 1, hk => by
    obtain ⟨x, hx⟩ := get_of_lt (l := l) (k := k) (by omega)
    rw [zRun_succ z hx, step_steps, zRun_steps z l k (by omega), List.take_add_one, hx, List.append_assoc]
    rfl
theorem zRun_fine {p s : Int} {l : List Wk} {z : Pil} (h : goAll p s z l) (h0 : Fine p z 0) : ∀ k, k ≤ l.length → Fine p (zRun z l k) k
  | 0, _ => h0
  | k + 1, hk => by
    obtain ⟨x, hx⟩ := get_of_lt (l := l) (k := k) (by omega)
    rw [zRun_succ z hx]
    exact (zRun_fine h h0 k (by omega)).step (go_at h k x hx)
theorem goAll_take {p s : Int} : ∀ {l : List Wk} {z : Pil} (k : Nat), goAll p s z l → goAll p s z (l.take k)
  | _, _, 0, _ => trivial
  | [], _, _ + 1, _ => trivial
  | _ :: _, _, k + 1, h => ⟨h.1, goAll_take k h.2⟩
theorem putf_one (os : List Int) : (os.flatMap (fun i => putL i 2)).length = os.length * 2 := putf_len os
theorem saveB_len (p s : Int) (z : Pil) (n : Nat) (h : Fine p z n) : 0 < (saveB p s z).length ∧ (saveB p s z).length ≤ 13 + n * 19 := by
  have hs : ∀ l : List Wk, (∀ x ∈ l, x.word.size ≤ 16) → (l.flatMap stepB).length ≤ l.length * 19 := by
    intro l hl
    induction l with
    | nil => exact Nat.le_refl _
    | cons a l ih =>
      have h1 := ih (fun x hx => hl x (List.mem_cons_of_mem _ hx))
      have h2 := hl a (List.mem_cons_self ..)
      have h3 := stepB_len a
      rw [List.flatMap_cons, List.length_append, List.length_cons]
      omega
  have h1 := hs z.steps (fun x hx => (h.st x hx).2.2.2.2)
  have h2 := h.b.steps
  unfold saveB saveA saveO saveS
  rw [outL_none h.out]
  simp only [List.length_append, List.take_length, putL_len, List.length_cons, List.length_nil, List.flatMap_nil, List.take_nil]
  omega
/-- what is saved is loaded -/
theorem load_save {p s : Int} {l : List Wk} (hp : 2 ≤ p ∧ p ≤ 24) (hs : 2 ≤ s ∧ s ≤ 8) (hcs : csE p s [] = 0) (h : goAll p s (pil0 (lineN (2 * p.toNat))) l) (hl : l.length ≤ 200) (k : Nat) (hk : k ≤ l.length) :
    ldP (saveB p s (zRun (pil0 (lineN (2 * p.toNat))) l k)) = (0, zRun (pil0 (lineN (2 * p.toNat))) l k) ∧ (rdP (saveB p s (zRun (pil0 (lineN (2 * p.toNat))) l k))).2.p = p ∧ (rdP (saveB p s (zRun (pil0 (lineN (2 * p.toNat))) l k))).2.s = s := by
  have hF := zRun_fine h (Fine.begin p) k hk
  have hst := zRun_steps (pil0 (lineN (2 * p.toNat))) l k hk
  have hlen := saveB_len p s _ k hF
  have hps := hF.b.ps
  have hR := rdP_save p s (zRun (pil0 (lineN (2 * p.toNat))) l k) (by omega) (by omega) (by rw [hF.b.steps]; omega) (fun x hx => by have := hF.st x hx; omega) (by omega)
  rw [outL_none hF.out] at hR
  have hst2 : (zRun (pil0 (lineN (2 * p.toNat))) l k).steps = l.take k := by rw [hst]; rfl
  have hg := goRes_all (p := p) (s := s) (l.take k) (pil0 (lineN (2 * p.toNat))) (goAll_take k h)
  refine ⟨?_, by rw [hR], by rw [hR]⟩
  unfold ldP
  rw [if_neg (by omega), hR, if_neg (by simp)]
  unfold ldSv
  simp only
  rw [if_neg (by rw [hcs]; simp), if_neg (by rw [hF.b.steps]; omega), hst2, hg]
  simp only [ne_eq, not_true, if_false]
  rfl
/-- a sheet whose steps there are: all of them may be done -/
theorem beg16 {p b : Int} {ws : List Wk} (h0 : ckS p b ws = 0) (hl : ws.length ≤ 60) : (2 ≤ p ∧ p ≤ 24) ∧ (2 ≤ b ∧ b ≤ 8) ∧ csE p b [] = 0 ∧ goAll p b (pil0 (lineN (2 * p.toNat))) (stAll p b (-1) ws) ∧ (stAll p b (-1) ws).length ≤ 2 * ws.length := by
  have hh : SOk p ws ∧ (2 ≤ b ∧ b ≤ 8 ∧ b ≤ p) := by
    unfold ckS at h0
    by_cases e : schk p ws = 0
    · rw [if_neg (by simpa using e)] at h0
      cases hb : spB p b with
      | true => exact ⟨schk_zero e, of_decide_eq_true hb⟩
      | false => rw [hb] at h0; cases h0
    · rw [if_pos e] at h0; exact absurd h0 e
  obtain ⟨hok, hsp⟩ := hh
  have hcs : csE p b [] = 0 := by
    unfold csE
    rw [if_neg (by rw [show spB p b = true from decide_eq_true hsp]; have := hok.ge; have := hok.le; rintro (c | c | c); · omega
                   · omega
                   · cases c)]
    rfl
  have hp : 2 ≤ p ∧ p ≤ 24 := ⟨hok.ge, hok.le⟩
  have HG := st_good hp hsp ws (pil0 (lineN (2 * p.toNat))) (.inl rfl) (fun x hx => ⟨hok.good x hx, hok.short x hx, hok.form x hx⟩) (by show 0 + ws.length ≤ 400; omega)
  exact ⟨hp, ⟨hsp.1, hsp.2.1⟩, hcs, HG.1, by have := stAll_len (p := p) (s := b) ws (-1); omega⟩
end Go.Proofs.Ytaenafcecfdffaa
/-
  Plain words of chapter 16: pins that are taken out one after the other (for PillowBreaks).
-/
namespace Go.Proofs.Ytaenafcecfdffaa
open Go.RowKit
def selB (a i : Nat) : Bool := decide (i < 16) && (a / 2 ^ i % 2 == 1)
def selN (a : Nat) : Nat → Nat
  | 0 => 0
  | k + 1 => selN a k + (if selB a k then 1 else 0)
theorem selN_le (a : Nat) : ∀ k, selN a k ≤ k
  | 0 => Nat.le_refl _
  | k + 1 => by
    have := selN_le a k
    show selN a k + (if selB a k then 1 else 0) ≤ k + 1
    split <;> omega
theorem selN_more (a : Nat) : ∀ d, selN a (16 + d) = selN a 16
  | 0 => rfl
  | d + 1 => by
    show selN a (16 + d) + (if selB a (16 + d) then 1 else 0) = _
    have : selB a (16 + d) = false := by unfold selB; rw [decide_eq_false (by omega)]; rfl
    rw [this, selN_more a d]
    rfl
theorem selN_min (a n : Nat) : selN a (min n 16) = selN a n := by
  by_cases h : n ≤ 16
  · rw [Nat.min_eq_left h]
  · obtain ⟨d, rfl⟩ := Nat.exists_eq_add_of_le (show 16 ≤ n by omega)
    rw [Nat.min_eq_right (by omega), selN_more]
theorem sel_val (a k : Nat) : ((a : Int) / 2 ^ k).tmod 2 = ((a / 2 ^ k % 2 : Nat) : Int) := by
  have e : (a : Int) / 2 ^ k = ((a / 2 ^ k : Nat) : Int) := by rw [Int.natCast_ediv, Int.natCast_pow]; rfl
  rw [e, Int.tmod_eq_emod_of_nonneg (Int.natCast_nonneg _)]
  rfl
theorem sel_yes {a k : Nat} (hk : k < 16) (h : ((a : Int) / 2 ^ k).tmod 2 = 1) : selB a k = true := by
  rw [sel_val] at h
  unfold selB
  rw [decide_eq_true hk, show a / 2 ^ k % 2 = 1 by omega]
  rfl
theorem sel_no {a k : Nat} (h : ¬ ((a : Int) / 2 ^ k).tmod 2 = 1) : selB a k = false := by
  rw [sel_val] at h
  unfold selB
  rw [show a / 2 ^ k % 2 = 0 by omega]
  simp
def pullN' (z : Pil) (pins : List Int) (a : Nat) : Nat → Pil
  | 0 => z
  | k + 1 => if selB a k then (pullN' z pins a k).pull (pins.getD k 0).toNat else pullN' z pins a k
theorem standL_bnd (ps : List Pn) : ∀ k, ∀ x ∈ standL ps k, ∃ (j : Nat) (y : Pn), x = (j : Int) ∧ j < k ∧ ps[j]? = some y ∧ standB y = true
  | 0, x, hx => by cases hx
  | k + 1, x, hx => by
    cases h : ps[k]? with
    | none =>
      have e : standL ps (k + 1) = standL ps k := by show (match ps[k]? with | none => _ | some x => _) = _; rw [h]
      rw [e] at hx
      obtain ⟨j, y, h1, h2, h3, h4⟩ := standL_bnd ps k x hx
      exact ⟨j, y, h1, by omega, h3, h4⟩
    | some y =>
      rw [standL_succ h] at hx
      split at hx
      · rename_i hs
        rcases List.mem_append.1 hx with hx | hx
        · obtain ⟨j, y, h1, h2, h3, h4⟩ := standL_bnd ps k x hx
          exact ⟨j, y, h1, by omega, h3, h4⟩
        · exact ⟨k, y, List.mem_singleton.1 hx, by omega, h, hs⟩
      · obtain ⟨j, y, h1, h2, h3, h4⟩ := standL_bnd ps k x hx
        exact ⟨j, y, h1, by omega, h3, h4⟩
theorem standL_up (ps : List Pn) : ∀ k, (standL ps k).Pairwise (· < ·)
  | 0 => List.Pairwise.nil
  | k + 1 => by
    cases h : ps[k]? with
    | none =>
      have e : standL ps (k + 1) = standL ps k := by show (match ps[k]? with | none => _ | some x => _) = _; rw [h]
      rw [e]; exact standL_up ps k
    | some y =>
      rw [standL_succ h]
      split
      · refine List.pairwise_append.2 ⟨standL_up ps k, List.pairwise_singleton .., fun x hx y hy => ?_⟩
        obtain ⟨j, _, rfl, h2, _⟩ := standL_bnd ps k x hx
        rw [List.mem_singleton.1 hy]
        omega
      · exact standL_up ps k
theorem standL_set {ps : List Pn} {j : Nat} {x : Pn} (hx : ps[j]? = some x) (hs : standB x = true) : ∀ k, k ≤ ps.length → (standL (ps.set j { x with out := true }) k).length + (if j < k then 1 else 0) = (standL ps k).length
  | 0, _ => by simp [standL]
  | k + 1, hk => by
    have ih := standL_set hx hs k (by omega)
    obtain ⟨y, hy⟩ := get_of_lt (l := ps) (k := k) (by omega)
    rw [standL_succ hy]
    by_cases hjk : j = k
    · subst hjk
      obtain rfl : x = y := by rw [hx] at hy; injection hy
      have hg : (ps.set j { x with out := true })[j]? = some { x with out := true } := List.getElem?_set_self (lt_of_get hx)
      rw [standL_succ hg, if_pos hs, if_neg (by simp [standB])]
      rw [if_neg (Nat.lt_irrefl j)] at ih
      rw [if_pos (by omega), List.length_append]
      simp only [List.length_cons, List.length_nil]
      omega
    · have hg : (ps.set j { x with out := true })[k]? = some y := by rw [List.getElem?_set_ne (by omega)]; exact hy
      rw [standL_succ hg]
      have e : (if j < k + 1 then 1 else 0 : Nat) = (if j < k then 1 else 0) := by
        by_cases h : j < k
        · rw [if_pos h, if_pos (by omega)]
        · rw [if_neg h, if_neg (by omega)]
      rw [e]
      split
      · rw [List.length_append, List.length_append, ← ih]
        simp only [List.length_cons, List.length_nil]
        omega
      · exact ih
/-- what stays when a pin is pulled -/
theorem pull_keeps (z : Pil) (k : Nat) : (z.pull k).ps.length = z.ps.length ∧ (z.pull k).l = z.l ∧ (z.pull k).xs = z.xs ∧ (z.pull k).works = z.works ∧ (z.pull k).hands = z.hands ∧ (z.pull k).steps = z.steps ∧ (z.pull k).marks = z.marks ∧ (z.pull k).ps.map Pn.q = z.ps.map Pn.q := by
  unfold Pil.pull
  split
  · exact ⟨rfl, rfl, rfl, rfl, rfl, rfl, rfl, rfl⟩
  · rename_i x hx
    refine ⟨List.length_set, rfl, rfl, rfl, rfl, rfl, rfl, ?_⟩
    show (z.ps.set k { x with out := true }).map Pn.q = _
    refine List.ext_getElem? fun i => ?_
    rw [List.getElem?_map, List.getElem?_map]
    by_cases hi : k = i
    · subst hi
      rw [List.getElem?_set_self (lt_of_get hx), hx]
      rfl
    · rw [List.getElem?_set_ne hi]
structure Plls (z : Pil) (pins : List Int) (a k : Nat) : Prop where
  len : (pullN' z pins a k).ps.length = z.ps.length
  l : (pullN' z pins a k).l = z.l
  xs : (pullN' z pins a k).xs = z.xs
  works : (pullN' z pins a k).works = z.works
  hands : (pullN' z pins a k).hands = z.hands
  steps : (pullN' z pins a k).steps = z.steps
  marks : (pullN' z pins a k).marks = z.marks
  q : (pullN' z pins a k).ps.map Pn.q = z.ps.map Pn.q
  at_ : ∀ t, k ≤ t → t < pins.length → (pullN' z pins a k).ps[(pins.getD t 0).toNat]? = z.ps[(pins.getD t 0).toNat]?
  n : (standL (pullN' z pins a k).ps z.ps.length).length + selN a k = pins.length
theorem plls (z : Pil) (a : Nat) : ∀ k, k ≤ (standL z.ps z.ps.length).length → Plls z (standL z.ps z.ps.length) a k
  | 0, _ => ⟨rfl, rfl, rfl, rfl, rfl, rfl, rfl, rfl, fun _ _ _ => rfl, rfl⟩
  | k + 1, hk => by
    obtain ⟨h1, h2, h3, h4, h5, hst, hmk, h6, h7, h8⟩ := plls z a k (by omega)
    generalize hpin : standL z.ps z.ps.length = pins at *
    cases hs : selB a k with
    | false =>
      have e : pullN' z pins a (k + 1) = pullN' z pins a k := if_neg (by rw [hs]; decide)
      have e2 : selN a (k + 1) = selN a k := by show selN a k + (if selB a k then 1 else 0) = _; rw [hs]; rfl
      exact ⟨by rw [e]; exact h1, by rw [e]; exact h2, by rw [e]; exact h3, by rw [e]; exact h4, by rw [e]; exact h5, by rw [e]; exact hst, by rw [e]; exact hmk, by rw [e]; exact h6, fun t ht hl => by rw [e]; exact h7 t (by omega) hl, by rw [e, e2]; exact h8⟩
    | true =>
      have e : pullN' z pins a (k + 1) = (pullN' z pins a k).pull (pins.getD k 0).toNat := if_pos hs
      have e2 : selN a (k + 1) = selN a k + 1 := by show selN a k + (if selB a k then 1 else 0) = _; rw [hs]; rfl
      obtain ⟨g1, g2, g3, g4, g5, gs, gm, g7⟩ := pull_keeps (pullN' z pins a k) (pins.getD k 0).toNat
      obtain ⟨v, hv⟩ := get_of_lt (l := pins) (k := k) (by omega)
      have hgv : pins.getD k 0 = v := by rw [List.getD_eq_getElem?_getD, hv]; rfl
      obtain ⟨j, y, rfl, hj, hy, hb⟩ := standL_bnd z.ps z.ps.length v (by rw [hpin]; exact mem_of_get hv)
      have h7k := h7 k (Nat.le_refl _) (by omega)
      rw [hgv, Int.toNat_natCast, hy] at h7k
      have ep : (pullN' z pins a k).pull (pins.getD k 0).toNat = { pullN' z pins a k with ps := (pullN' z pins a k).ps.set j { y with out := true } } := by
        rw [hgv, Int.toNat_natCast]
        unfold Pil.pull
        rw [h7k]
      refine ⟨by rw [e, g1, h1], by rw [e, g2, h2], by rw [e, g3, h3], by rw [e, g4, h4], by rw [e, g5, h5], by rw [e, gs, hst], by rw [e, gm, hmk], by rw [e, g7, h6], fun t ht hl => ?_, ?_⟩
      · rw [← h7 t (by omega) hl, e, ep]
        show ((pullN' z pins a k).ps.set j { y with out := true })[(pins.getD t 0).toNat]? = _
        obtain ⟨v2, hv2⟩ := get_of_lt (l := pins) (k := t) hl
        have hgv2 : pins.getD t 0 = v2 := by rw [List.getD_eq_getElem?_getD, hv2]; rfl
        obtain ⟨j2, y2, rfl, hj2, _⟩ := standL_bnd z.ps z.ps.length v2 (by rw [hpin]; exact mem_of_get hv2)
        have hup := standL_up z.ps z.ps.length
        rw [hpin] at hup
        have hlt : (j : Int) < (j2 : Int) := by
          obtain ⟨l1, e1⟩ := List.getElem?_eq_some_iff.1 hv
          obtain ⟨l2, e2⟩ := List.getElem?_eq_some_iff.1 hv2
          rw [← e1, ← e2]
          exact List.pairwise_iff_getElem.1 hup k t l1 l2 (by omega)
        rw [hgv2, Int.toNat_natCast, List.getElem?_set_ne (by omega)]
      · rw [e, e2, ep]
        have hl := standL_set h7k hb z.ps.length (by rw [h1]; exact Nat.le_refl _)
        rw [if_pos hj] at hl
        show (standL ((pullN' z pins a k).ps.set j { y with out := true }) z.ps.length).length + (selN a k + 1) = _
        omega
theorem pull_can {z : Pil} {a k : Nat} {v : Int} (hk : (standL z.ps z.ps.length)[k]? = some v) : ∃ (j : Nat) (y : Pn), v = (j : Int) ∧ (pullN' z (standL z.ps z.ps.length) a k).ps[j]? = some y ∧ pullE y = 0 := by
  have hl := lt_of_get hk
  have h7 := (plls z a k (by omega)).at_ k (Nat.le_refl _) hl
  have hg : (standL z.ps z.ps.length).getD k 0 = v := by rw [List.getD_eq_getElem?_getD, hk]; rfl
  obtain ⟨j, y, rfl, _, hy, hb⟩ := standL_bnd z.ps z.ps.length v (mem_of_get hk)
  rw [hg, Int.toNat_natCast, hy] at h7
  refine ⟨j, y, rfl, h7, ?_⟩
  unfold standB at hb
  simp at hb
  unfold pullE
  rw [hb.1, hb.2]
  rfl
/-- two pillows, and a list of pins beside them -/
def PinsP (W : World) (B g h : Nat) (p s : Int) (z y : Pil) (A : Option Addr) (n c : Nat) (pins : List Int) : Prop :=
  ∃ S M V L X P S' M' V' L' X' P', PilH W B g p s z S M V L X P ∧ PilH W B h p s y S' M' V' L' X' P' ∧ (∀ b, blkV g [S, M, V, L, X, P] b → ¬ blkV h [S', M', V', L', X', P'] b) ∧
    W.ownsRow B 3 1 (.slice A n c) n (pins.map vInt) ∧ ∀ r, (Value.slice A n c).ownBlock = some r → ¬ blkV h [S', M', V', L', X', P'] r
section
variable {W W' : World} {B g h : Nat} {p s : Int} {z y : Pil} {A : Option Addr} {n c : Nat} {pins : List Int}
theorem PinsP.two (q : PinsP W B g h p s z y A n c pins) : TwoP W B g h p s z y := by
  obtain ⟨S, M, V, L, X, P, S', M', V', L', X', P', h1, h2, h3, _, _⟩ := q
  exact ⟨S, M, V, L, X, P, S', M', V', L', X', P', h1, h2, h3⟩
theorem PinsP.rd (q : PinsP W B g h p s z y A n c pins) : RdI W W.heap.size A pins := by
  obtain ⟨_, _, _, _, _, _, _, _, _, _, _, _, _, _, _, h4, _⟩ := q
  exact own_rd1 h4
theorem PinsP.below (q : PinsP W B g h p s z y A n c pins) (hb : Below W.heap.size W W') : PinsP W' B g h p s z y A n c pins := by
  obtain ⟨S, M, V, L, X, P, S', M', V', L', X', P', h1, h2, h3, h4, h5⟩ := q
  exact ⟨S, M, V, L, X, P, S', M', V', L', X', P', RowsH.below h1 hb, RowsH.below h2 hb, h3, own_below h4 hb, h5⟩
theorem PinsP.make (q : TwoP W B g h p s z y) (hb : Below W.heap.size W W') (o : W'.ownsRow W.heap.size 3 1 (.slice A n c) n (pins.map vInt)) : PinsP W' B g h p s z y A n c pins := by
  obtain ⟨S, M, V, L, X, P, S', M', V', L', X', P', h1, h2, h3⟩ := q
  exact ⟨S, M, V, L, X, P, S', M', V', L', X', P', RowsH.below h1 hb, RowsH.below h2 hb, h3, own_mono o (RowsH.z h1), fun r hr hb' => by have := (o.lt r hr).1; have := pilK_lt h2 hb'; omega⟩
theorem PinsP.pull {k : Nat} {x : Pn} (q : PinsP W B g h p s z y A n c pins) (hp : 0 < p) (hx : y.ps[k]? = some x) (hE : pullE x = 0) :
    Calls Try.prog 22 #[.pointer (some ⟨h, 0, none⟩), .int .i64 (k : Int)] W fun e w' => e = .returned (.int .i64 0) ∧ PinsP w' B g h p s z (y.pull k) A n c pins ∧ Below B W w' := by
  obtain ⟨S, M, V, L, X, P, S', M', V', L', X', P', h1, h2, h3, h6, h7⟩ := q
  refine (pullK B h p s y S' M' V' L' X' P' k x W h2 hp hx).mono ?_
  rintro e w' ⟨rfl, h4, hb, hk⟩
  unfold Pil.pulled at h4
  rw [if_pos hE] at h4
  exact ⟨by rw [hE], ⟨S, M, V, L, X, P, S', M', V', L', X', P', pil_keep h1 hk (fun b hb hb' => h3 b hb (.inr ⟨P', by simp, hb'⟩)), h4, h3, hk.own h6 (fun r hr hb' => h7 r hr (.inr ⟨P', by simp, hb'⟩)), h7⟩, hb⟩
end
end Go.Proofs.Ytaenafcecfdffaa
