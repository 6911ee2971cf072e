/-
  undo.works as an iterator of works over an iterator of indices.
-/
import Derived.Test.YtnjenggijmbhcaaVK7
import Derived.Test.YtnjenggijmbhcaaVK30
import Derived.Test.YtnjenggijmbhcaaVK31
namespace Go.Proofs.Ytnjenggijmbhcaa
open Go.RowKit
theorem postM_none {P : Program} {fn : Func} {R : Ending → World → Prop} {a : Act} {w : World} {D : Nat} (hres : fn.results = #[])
    (hd : a.defers = [{ target := .collected D, args := #[] }]) (hD : w.heap[D]? = some (.deferred (some [])))
    (hR : R (.returned (.tuple #[])) (w.putObj D (.deferred none))) : bodyPostM Fence.wide 0 P fn R .ret a w := by
  show LeavesInM Fence.wide 0 P fn a.tmps R a.defers .returning w
  rw [hd]
  refine ⟨by simp, .inl ⟨_, _, rfl, run_takeDeferred hD, ?_⟩⟩
  refine ⟨.tuple #[], ?_, hR⟩
  simp [results, hres]
theorem Has.ne_defw {W : World} {g D : Nat} {t : TypeId} {cs : List Value} (h : Has W g t cs) {o : Obj} (hD : W.heap[D]? = some o) (ho : o.isCells = false) : g ≠ D := fun e => by
  subst e
  unfold Has at h
  rw [h] at hD
  injection hD with hD
  rw [← hD] at ho; cases ho
def wkA (ws : List Wk) (i : Nat) : Wk := match ws[i]? with | some x => x | none => ⟨0, 0, ⟨#[]⟩⟩
def encW (x : Wk) : Array Value := #[.agg #[.int .i64 x.kind, .int .i64 x.at_, .string x.word]]
/-- an iterator of works answers a list -/
def SeqW (gf : Nat) (caps : Array Value) (w0 lb : Nat) (W0 : World) (xs : List Wk) : Prop :=
  ∀ (I : List Wk → World → Prop) (l dd : Nat) (rc0 : Loop) (W : World), OwnFrom W0.heap.size I → W0.heap.size ≤ l → l < W.heap.size → Agree w0 lb W0 W → Mid I l dd rc0 [] W →
    (∀ pre x W1, (pre ++ [x]) <+: xs → Agree w0 lb W0 W1 → Mid I l dd rc0 pre W1 → YieldAt Fence.wide 0 Try.prog l (encW x) W1 fun e W' => e = .returned (.bool true) ∧ Mid I l dd rc0 (pre ++ [x]) W' ∧ KeepW lb w0 l W1 W') →
    Calls Try.prog gf (#[.func (.yield l) #[] #[]] ++ caps) W fun e W' => (∃ v, e = .returned v) ∧ Mid I l dd rc0 xs W' ∧ KeepW lb w0 l W W'
theorem Has.keepw {lb w0 l r : Nat} {A B : World} {t : TypeId} {cs : List Value} (h : Has A r t cs) (k : KeepW lb w0 l A B) (h1 : r ≠ l) (h2 : r ≠ lb) (h3 : r < w0 ∨ t ≠ 26) : Has B r t cs :=
  h.same (k.same r h.lt h1 h2 (h3.imp id (fun hn cs' fr e => by unfold Has at h; rw [h] at e; injection e with e; injection e with _ e _; exact hn e)))
theorem dead_keepw {lb w0 l r : Nat} {A B : World} {o : Obj} (k : KeepW lb w0 l A B) (h : A.heap[r]? = some o) (ho : o.isCells = false) (h1 : r ≠ l) (h2 : r ≠ lb) : B.heap[r]? = some o :=
  (k.same r (Array.getElem?_eq_some_iff.1 h).1 h1 h2 (.inr (fun cs fr e => by rw [h] at e; injection e with e; rw [e] at ho; cases ho))).trans h
theorem KeepW.of_alloc (lb w0 l : Nat) (A : World) (o : Obj) : KeepW lb w0 l A (A.alloc o) :=
  ⟨by simp, fun r hr _ _ _ => Below.heap_alloc _ _ r hr, fun x h1 h2 => ⟨x, (Below.heap_alloc _ _ lb (Array.getElem?_eq_some_iff.1 h1).1).trans h1, h2⟩⟩
set_option maxRecDepth 100000 in
set_option maxHeartbeats 8000000 in
theorem worksIt (gfi : Nat) (capsi : Array Value) (b3 b2 sb w0 lb n c : Nat) (p : Int) (A : Option Addr) (ws : List Wk) (xs : List (Nat × Nat)) (W0 : World)
    (egi : ∀ args w, (callFunc gfi args).run Try.prog w = .ok (.enter gfi args) w) (hin : SeqI gfi capsi w0 lb W0 xs)
    (h3 : Has W0 b3 114 [.func (.func gfi) #[] capsi]) (h2 : Has W0 b2 70 [.pointer (some ⟨sb, 0, none⟩)]) (hs : Has W0 sb 24 [.int .i64 p, .slice A n c]) (hW : RdW W0 w0 A ws)
    (hb3 : b3 ≠ lb) (hb2 : b2 ≠ lb) (hsb : sb ≠ lb) (hWb : ∀ b o, A = some ⟨b, o, none⟩ → b ≠ lb) (hx : ∀ x ∈ xs, x.2 < ws.length) (hl : ws.length = n) :
    SeqW 98 #[.pointer (some ⟨b3, 0, none⟩), .pointer (some ⟨b2, 0, none⟩)] w0 lb W0 (xs.map fun x => wkA ws x.2) := by
  intro I l dd rc0 W hI hwl hlW hag h0 hY
  show Calls _ _ #[_, _, _] _ _
  have c3 : W.cell? ⟨b3, 0, none⟩ = some (.func (.func gfi) #[] capsi) := (hag.has h3 hb3 (by decide)).cell 0
  have HY := Lib.hid hY; clear hY
  have H0 := Lib.hid h0; clear h0
  have HG0 := Lib.hid hag
  have q3 : b3 < W.heap.size := (hag.has h3 hb3 (by decide)).lt
  have hlow := hag.low
  refine (callsIn_wide (n := 0)).1 (callsIn_of_wp_marks Try.func98 rfl trivial ?_)
  simp only [Try.ntmps98, List.size_toArray, List.length_cons, List.length_nil, Nat.reduceAdd, Nat.reduceSub, Array.replicate_succ, Array.replicate_zero, List.push_toArray, List.append_toArray, List.nil_append, List.cons_append]
  refine wpIn_wide.2 ?_
  go_wp2
  obtain ⟨w1, hw1⟩ : ∃ w1, w1 = W.alloc (.cells #[.func (.yield l) #[] #[]] 103) := ⟨_, rfl⟩
  have Y0 : Has w1 W.heap.size 103 [.func (.yield l) #[] #[]] := by rw [hw1]; exact Has.new rfl
  have hz1 : w1.heap.size = W.heap.size + 1 := by rw [hw1]; simp
  have K0 : KeepW lb w0 l W w1 := by rw [hw1]; exact KeepW.of_alloc _ _ _ _ _
  have M0 : Mid I l dd rc0 [] w1 := by
    have hko : KeepsOthers W w1 := by rw [hw1]; exact KeepsOthers.alloc _ _
    exact H0.out.go hko (by rw [hw1]; exact hI.alloc _ H0.out.inv)
  have hdd : dd < W.heap.size := (Array.getElem?_eq_some_iff.1 H0.out.dfr).1
  rw [← hw1]
  clear hw1
  have OI : ∀ hi : Nat, OwnFrom w1.heap.size (fun (pre : List (Nat × Nat)) V => Mid I l dd rc0 (pre.map fun x => wkA ws x.2) V ∧ Agree w0 lb W0 V ∧ Has V W.heap.size 103 [.func (.yield l) #[] #[]] ∧ KeepW lb w0 l W V) := fun _ pre V V' row ⟨hm, ha, hy, hk⟩ hg hr => by
    have hsz := hag.size
    have far : ∀ r, r < w1.heap.size → some r ≠ row := fun r h e => by have := (hr r e.symm).1; omega
    have dead : ∀ r o, V.heap[r]? = some o → o.isCells = true → some r ≠ row := fun r o h h2 e => by obtain ⟨_, o', h3, h4⟩ := hr r e.symm; rw [h] at h3; injection h3 with h3; rw [← h3, h2] at h4; cases h4
    have bx : ∀ o, V.heap[lb]? = some o → o.isCells = true → ∃ o', V'.heap[lb]? = some o' ∧ o'.isCells = true := fun o h1 h2 => ⟨o, (hg.block lb (Array.getElem?_eq_some_iff.1 h1).1 (dead lb o h1 h2)).trans h1, h2⟩
    have hVs := hk.size
    refine ⟨⟨hI _ _ _ row hm.inv hg (fun r e => ⟨by have := (hr r e).1; omega, (hr r e).2⟩), (hg.block l (by omega) (far l (by omega))).trans hm.rec_, (hg.block dd (by omega) (far dd (by omega))).trans hm.dfr⟩, ⟨ha.low, Nat.le_trans ha.size hg.size, fun r h1 h2 h3 => (hg.block r (by omega) (far r (by omega))).trans (ha.same r h1 h2 h3), ?_⟩, hy.same (hg.block _ hy.lt (far _ (by omega))), ⟨Nat.le_trans hk.size hg.size, fun r h1 h2 h3 h4 => (hg.block r (by omega) (far r (by omega))).trans (hk.same r h1 h2 h3 h4), fun o h1 h2 => ?_⟩⟩
    · obtain ⟨o, h1, h2⟩ := ha.box; exact bx o h1 h2
    · obtain ⟨o', h3, h4⟩ := hk.box o h1 h2; exact bx o' h3 h4
  refine wpIn_wide.1 (range_lawK (n := 0) (gf := gfi) (lb := capsi) rfl egi encI (fun _ => rfl) (fun _ pre V => Mid I l dd rc0 (pre.map fun x => wkA ws x.2) V ∧ Agree w0 lb W0 V ∧ Has V W.heap.size 103 [.func (.yield l) #[] #[]] ∧ KeepW lb w0 l W V) (fun ys => ys = xs) (fun _ pre x _ => (pre ++ [x]) <+: xs) (fun l' _ A B => KeepW lb w0 l' A B) (fun _ _ _ _ _ h k => h.trans k) (fun _ _ A o o' h ho => KeepW.put A o o' h ho) OI ⟨M0, hag.keep K0 hwl, Y0, K0⟩ ?iter ?rnd ?done)
  case iter =>
    intro l' d' r0 V hd1 hd2 hKB hMid hY'
    have hsz := hag.size
    exact callsIn_wide.2 ((hin _ l' d' r0 V (by omega) (Array.getElem?_eq_some_iff.1 hMid.rec_).1 hMid.inv.2.1 hMid (fun pre x W1 hp _ hm => hY' 0 pre x W1 hp (Nat.zero_le _) hm)).mono (fun e W' ⟨hv, hm, _⟩ => ⟨hv, 0, xs, rfl, hm⟩))
  case done =>
    rintro D hi xs' V hD rfl ⟨hm, ha, hy, hk⟩ hDf
    have hsz := hag.size
    go_wp2
    refine postM_none rfl rfl hDf ?_
    have hkp : KeepsOthers V V := KeepsOthers.refl _
    refine ⟨⟨_, rfl⟩, ⟨hI.putObj _ hm.inv (by omega) hDf rfl, (World.putObj_heap_other (by omega)).trans hm.rec_, (World.putObj_heap_other (by omega)).trans hm.dfr⟩, ⟨by simp [World.putObj]; exact hk.size, fun r h1 h2 h3 h4 => (World.putObj_heap_other (by omega)).trans (hk.same r h1 h2 h3 h4), fun o h1 h2 => ?_⟩⟩
    obtain ⟨o', h5, h6⟩ := hk.box o h1 h2
    exact ⟨o', (World.putObj_heap_other (fun e => by rw [e, hDf] at h5; injection h5 with h5; rw [← h5] at h6; cases h6)).trans h5, h6⟩
  case rnd =>
    rintro hi l' pre x V o hok hl' htop hinv hVl ho
    have hsz := hag.size
    dsimp only [encI]
    gi_wp2
    rename_i K hK
    refine hK _ _ ?_
    clear hK K
    try simp only [Act.put, List.setIfInBounds_toArray, List.set_cons_zero, List.set_cons_succ]
    gi_wp2
    refine ⟨KeepsOthers.refl _, KeepW.refl _ _ _ _, fun o' ho' => ?_⟩
    have HV := (OI 0).putObj o' hinv (by omega) hVl ho
    obtain ⟨YY, hYY⟩ : ∃ YY, YY = V.putObj l' o' := ⟨_, rfl⟩
    have hYl : YY.heap[l']? = some o' := by rw [hYY]; exact World.putObj_heap_same (Array.getElem?_eq_some_iff.1 hVl).1
    rw [← hYY] at HV ⊢
    clear hYY
    obtain ⟨hm, ha, hy0, hkW⟩ := HV
    obtain ⟨x1, i⟩ := x
    have hxi : i < ws.length := hx (x1, i) ((hok.subset (List.mem_append_right _ (List.mem_singleton.2 rfl))))
    obtain ⟨wk, hwk⟩ := get_of_lt hxi
    have ewk : wkA ws i = wk := by unfold wkA; rw [hwk]
    obtain ⟨bw, ow, rfl, hbw, e0, e1, e2⟩ := (hW i wk hwk)
    have hbl := hWb bw ow rfl
    have f0 : YY.cell? ⟨bw, ow + i * 3, none⟩ = some (.int .i64 wk.kind) := ha.cell e0 hbw hbl
    have f1 : YY.cell? ⟨bw, ow + i * 3 + 1, none⟩ = some (.int .i64 wk.at_) := ha.cell e1 hbw hbl
    have f2 : YY.cell? ⟨bw, ow + i * 3 + 2, none⟩ = some (.string wk.word) := ha.cell e2 hbw hbl
    have g0 : YY.cell? ⟨W.heap.size, 0, none⟩ = some (.func (.yield l) #[] #[]) := hy0.cell 0
    have g1 : YY.cell? ⟨b2, 0, none⟩ = some (.pointer (some ⟨sb, 0, none⟩)) := (ha.has h2 hb2 (by decide)).cell 0
    have g2 : YY.cell? ⟨sb, 1, none⟩ = some (.slice (some ⟨bw, ow, none⟩) n c) := (ha.has hs hsb (by decide)).cell 1
    have hYs := ha.size
    have l0 : bw < YY.heap.size := by omega
    have l1 := hy0.lt
    have l2 : b2 < YY.heap.size := (ha.has h2 hb2 (by decide)).lt
    have l3 : sb < YY.heap.size := (ha.has hs hsb (by decide)).lt
    have j0 : (0 : Int) ≤ (i : Int) := by omega
    have j1 : (i : Int) < (n : Int) := by omega
    have hmd : Mid I l dd rc0 (pre.map fun x => wkA ws x.2) YY.drew := ⟨hI _ _ _ none hm.inv ⟨rfl, rfl, rfl, Nat.le_refl _, fun _ _ _ => rfl⟩ (fun r e => by cases e), hm.rec_, hm.dfr⟩
    have had : Agree w0 lb W0 YY.drew := ⟨ha.low, ha.size, ha.same, ha.box⟩
    have hYd := HY.out (pre.map fun x => wkA ws x.2) wk YY.drew (by
      have := hok.map (fun x => wkA ws x.2)
      rw [List.map_append, List.map_singleton] at this
      simp only [ewk] at this
      exact this) had hmd
    have eM : encW wk = #[.agg #[.int .i64 wk.kind, .int .i64 wk.at_, .string wk.word]] := rfl
    rw [eM] at hYd
    unfold YieldAt at hYd
    obtain ⟨fn, tmps, assign, body, hy, hR⟩ := hYd
    have HRR := Lib.hid hR
    have HM := Lib.hid hm
    have HA := Lib.hid ha
    have HY0 := Lib.hid hy0
    have HKW := Lib.hid hkW
    have EWK := Lib.hid ewk
    have HOK := Lib.hid hok
    clear hR eM hm ha hmd had hy0 hkW ewk hwk e0 e1 e2 hbw hbl hok hinv hVl HY hin h3 h2 hs hW hWb hx OI hag
    gi_wp2
    have FIN : ∀ w3 : World, Mid I l dd rc0 ((pre.map fun x => wkA ws x.2) ++ [wk]) w3 → KeepW lb w0 l YY.drew w3 → KeepsOthers YY w3 ∧ KeepW lb w0 l' YY w3 ∧ (Mid I l dd rc0 ((pre ++ [(x1, i)]).map fun x => wkA ws x.2) w3 ∧ Agree w0 lb W0 w3 ∧ Has w3 W.heap.size 103 [.func (.yield l) #[] #[]] ∧ KeepW lb w0 l W w3) := fun w3 hM3 hK3 => by
      have hKS : KeepW lb w0 l YY w3 := ⟨hK3.size, hK3.same, hK3.box⟩
      have hel : w3.heap[l]? = YY.heap[l]? := hM3.rec_.trans HM.out.rec_.symm
      obtain ⟨ob, hob, hobc⟩ := HA.out.box
      have hlbW : lb < W.heap.size := by obtain ⟨o, h1, _⟩ := HG0.out.box; exact (Array.getElem?_eq_some_iff.1 h1).1
      refine ⟨⟨hKS.size, fun k o hk hc => ?_⟩, ⟨hKS.size, fun r h1 h2 h3 h4 => ?_, hKS.box⟩, ?_, HA.out.keep hKS hwl, HY0.out.keepw hKS (by omega) (by omega) (.inr (by decide)), HKW.out.trans hKS⟩
      · by_cases e : k = l
        · rw [e, hel, ← e]; exact hk
        · exact dead_keepw hKS hk hc e (fun e2 => by rw [e2, hob] at hk; injection hk with hk; rw [← hk, hobc] at hc; cases hc)
      · by_cases e : r = l
        · rw [e]; exact hel
        · exact hKS.same r h1 e h3 h4
      · rw [List.map_append, List.map_singleton]
        show Mid I l dd rc0 (_ ++ [wkA ws i]) w3
        rw [EWK.out]
        exact hM3
    replace FIN := Lib.hid FIN
    refine wpIn_region_any (by kernel_rfl) ?_
    refine wpAnyIn_ready (rs := [0, 1, 5]) (by kernel_rfl) (by simp) ?_
    refine AllReadyIn.cons (o := _) rfl (fun K hK => ?_) ?_
    · rw [if_pos (by rfl)]
      refine ⟨fun _ _ => trivial, ?_⟩
      rw [Fence.inRound_round, Oper.semAt_some l' _ _ (by intro c hc; cases hc)]
      go_simp
      refine hK _ _ ?_
      clear hK K
      try simp only [Act.put, List.setIfInBounds_toArray, List.set_cons_zero, List.set_cons_succ]
      refine wpAnyIn_ready (rs := [1, 5]) (by kernel_rfl) (by simp) ?_
      refine AllReadyIn.cons (o := _) rfl (fun K hK => ?_) ?_
      · rw [if_pos (by rfl)]
        refine ⟨fun _ _ => trivial, ?_⟩
        rw [Fence.inRound_round, Oper.semAt_some l' _ _ (by intro c hc; cases hc)]
        go_simp
        refine hK _ _ ?_
        clear hK K
        try simp only [Act.put, List.setIfInBounds_toArray, List.set_cons_zero, List.set_cons_succ]
        refine wpAnyIn_ready (rs := [2, 5]) (by kernel_rfl) (by simp) ?_
        refine AllReadyIn.cons (o := _) rfl (fun K hK => ?_) ?_
        · rw [if_pos (by rfl)]
          refine ⟨fun _ _ => trivial, ?_⟩
          rw [Fence.inRound_round, Oper.semAt_some l' _ _ (by intro c hc; cases hc)]
          go_simp
          refine hK _ _ ?_
          clear hK K
          try simp only [Act.put, List.setIfInBounds_toArray, List.set_cons_zero, List.set_cons_succ]
          refine wpAnyIn_ready (rs := [3, 5]) (by kernel_rfl) (by simp) ?_
          refine AllReadyIn.cons (o := _) rfl (fun K hK => ?_) ?_
          · rw [if_pos (by rfl)]
            refine ⟨fun _ _ => trivial, ?_⟩
            rw [Fence.inRound_round, Oper.semAt_some l' _ _ (by intro c hc; cases hc)]
            go_simp
            refine hK _ _ ?_
            clear hK K
            try simp only [Act.put, List.setIfInBounds_toArray, List.set_cons_zero, List.set_cons_succ]
            refine wpAnyIn_ready (rs := [4, 5]) (by kernel_rfl) (by simp) ?_
            refine AllReadyIn.cons (o := _) rfl (fun K hK => ?_) ?_
            · rw [if_pos (by rfl)]
              refine ⟨fun _ _ => trivial, ?_⟩
              rw [Fence.inRound_round, Oper.semAt_some l' _ _ (by intro c hc; cases hc)]
              go_simp
              refine hK _ _ ?_
              clear hK K
              try simp only [Act.put, List.setIfInBounds_toArray, List.set_cons_zero, List.set_cons_succ]
              refine wpAnyIn_ready (rs := [5]) (by kernel_rfl) (by simp) ?_
              refine AllReadyIn.cons (o := _) rfl (fun K hK => ?_) ?_
              · rw [if_pos (by rfl)]
                refine ⟨fun _ _ => trivial, ?_⟩
                rw [Fence.inRound_round, Oper.semAt_some l' _ _ (by intro c hc; cases hc)]
                go_simp
                refine hK _ _ ?_
                clear hK K
                try simp only [Act.put, List.setIfInBounds_toArray, List.set_cons_zero, List.set_cons_succ]
                refine wpAnyIn_ready (rs := [6]) (by kernel_rfl) (by simp) ?_
                refine AllReadyIn.cons (o := _) rfl (fun K hK => ?_) ?_
                · rw [if_pos (by rfl)]
                  refine ⟨fun _ _ => trivial, ?_⟩
                  rw [Fence.inRound_round, Oper.semAt_some l' _ _ (by intro c hc; cases hc)]
                  go_simp
                  refine hK _ _ ?_
                  clear hK K
                  try simp only [Act.put, List.setIfInBounds_toArray, List.set_cons_zero, List.set_cons_succ]
                  refine wpAnyIn_ready (rs := [7]) (by kernel_rfl) (by simp) ?_
                  refine AllReadyIn.cons (o := _) rfl (fun K hK => ?_) ?_
                  · rw [if_pos (by rfl)]
                    refine ⟨fun _ _ => trivial, ?_⟩
                    rw [Fence.inRound_round, Oper.semAt_some l' _ _ (by intro c hc; cases hc)]
                    go_simp
                    refine hK _ _ ?_
                    clear hK K
                    try simp only [Act.put, List.setIfInBounds_toArray, List.set_cons_zero, List.set_cons_succ]
                    refine wpAnyIn_ready (rs := [8]) (by kernel_rfl) (by simp) ?_
                    refine AllReadyIn.cons (o := _) rfl (fun K hK => ?_) AllReadyIn.nil
                    rw [if_pos (by rfl)]
                    refine ⟨fun _ _ => trivial, ?_⟩
                    rw [Fence.inRound_round, Oper.semAt_some l' _ _ (by intro c hc; cases hc)]
                    go_simp
                    refine ⟨rfl, HRR.out.mono ?_⟩
                    rintro e w3 ⟨rfl, hM3, hKS⟩
                    dsimp only
                    refine hK _ _ ?_
                    clear hK K
                    try simp only [Act.put, List.setIfInBounds_toArray, List.set_cons_zero, List.set_cons_succ]
                    refine wpAnyIn_ready (rs := [9]) (by kernel_rfl) (by simp) ?_
                    refine AllReadyIn.cons (o := _) rfl (fun K hK => ?_) AllReadyIn.nil
                    rw [if_pos (by rfl)]
                    refine ⟨fun _ _ => trivial, ?_⟩
                    rw [Fence.inRound_round, Oper.semAt_some l' _ _ (by intro c hc; cases hc)]
                    go_simp
                    refine hK _ _ ?_
                    clear hK K
                    try simp only [Act.put, List.setIfInBounds_toArray, List.set_cons_zero, List.set_cons_succ]
                    refine wpAnyIn_done (by kernel_rfl) ?_ _
                    gi_wp2
                    exact FIN.out w3 hM3 hKS
                  exact AllReadyIn.nil
                exact AllReadyIn.nil
              exact AllReadyIn.nil
            refine AllReadyIn.cons (o := _) rfl (fun K hK => ?_) ?_
            · rw [if_pos (by rfl)]
              refine ⟨fun _ _ => trivial, ?_⟩
              rw [Fence.inRound_round, Oper.semAt_some l' _ _ (by intro c hc; cases hc)]
              go_simp
              refine hK _ _ ?_
              clear hK K
              try simp only [Act.put, List.setIfInBounds_toArray, List.set_cons_zero, List.set_cons_succ]
              refine wpAnyIn_ready (rs := [4]) (by kernel_rfl) (by simp) ?_
              refine AllReadyIn.cons (o := _) rfl (fun K hK => ?_) ?_
              · rw [if_pos (by rfl)]
                refine ⟨fun _ _ => trivial, ?_⟩
                rw [Fence.inRound_round, Oper.semAt_some l' _ _ (by intro c hc; cases hc)]
                go_simp
                refine hK _ _ ?_
                clear hK K
                try simp only [Act.put, List.setIfInBounds_toArray, List.set_cons_zero, List.set_cons_succ]
                refine wpAnyIn_ready (rs := [6]) (by kernel_rfl) (by simp) ?_
                refine AllReadyIn.cons (o := _) rfl (fun K hK => ?_) ?_
                · rw [if_pos (by rfl)]
                  refine ⟨fun _ _ => trivial, ?_⟩
                  rw [Fence.inRound_round, Oper.semAt_some l' _ _ (by intro c hc; cases hc)]
                  go_simp
                  refine hK _ _ ?_
                  clear hK K
                  try simp only [Act.put, List.setIfInBounds_toArray, List.set_cons_zero, List.set_cons_succ]
                  refine wpAnyIn_ready (rs := [7]) (by kernel_rfl) (by simp) ?_
                  refine AllReadyIn.cons (o := _) rfl (fun K hK => ?_) ?_
                  · rw [if_pos (by rfl)]
                    refine ⟨fun _ _ => trivial, ?_⟩
                    rw [Fence.inRound_round, Oper.semAt_some l' _ _ (by intro c hc; cases hc)]
                    go_simp
                    refine hK _ _ ?_
                    clear hK K
                    try simp only [Act.put, List.setIfInBounds_toArray, List.set_cons_zero, List.set_cons_succ]
                    refine wpAnyIn_ready (rs := [8]) (by kernel_rfl) (by simp) ?_
                    refine AllReadyIn.cons (o := _) rfl (fun K hK => ?_) AllReadyIn.nil
                    rw [if_pos (by rfl)]
                    refine ⟨fun _ _ => trivial, ?_⟩
                    rw [Fence.inRound_round, Oper.semAt_some l' _ _ (by intro c hc; cases hc)]
                    go_simp
                    refine ⟨rfl, HRR.out.mono ?_⟩
                    rintro e w3 ⟨rfl, hM3, hKS⟩
                    dsimp only
                    refine hK _ _ ?_
                    clear hK K
                    try simp only [Act.put, List.setIfInBounds_toArray, List.set_cons_zero, List.set_cons_succ]
                    refine wpAnyIn_ready (rs := [9]) (by kernel_rfl) (by simp) ?_
                    refine AllReadyIn.cons (o := _) rfl (fun K hK => ?_) AllReadyIn.nil
                    rw [if_pos (by rfl)]
                    refine ⟨fun _ _ => trivial, ?_⟩
                    rw [Fence.inRound_round, Oper.semAt_some l' _ _ (by intro c hc; cases hc)]
                    go_simp
                    refine hK _ _ ?_
                    clear hK K
                    try simp only [Act.put, List.setIfInBounds_toArray, List.set_cons_zero, List.set_cons_succ]
                    refine wpAnyIn_done (by kernel_rfl) ?_ _
                    gi_wp2
                    exact FIN.out w3 hM3 hKS
                  exact AllReadyIn.nil
                exact AllReadyIn.nil
              exact AllReadyIn.nil
            exact AllReadyIn.nil
          refine AllReadyIn.cons (o := _) rfl (fun K hK => ?_) ?_
          · rw [if_pos (by rfl)]
            refine ⟨fun _ _ => trivial, ?_⟩
            rw [Fence.inRound_round, Oper.semAt_some l' _ _ (by intro c hc; cases hc)]
            go_simp
            refine hK _ _ ?_
            clear hK K
            try simp only [Act.put, List.setIfInBounds_toArray, List.set_cons_zero, List.set_cons_succ]
            refine wpAnyIn_ready (rs := [3]) (by kernel_rfl) (by simp) ?_
            refine AllReadyIn.cons (o := _) rfl (fun K hK => ?_) ?_
            · rw [if_pos (by rfl)]
              refine ⟨fun _ _ => trivial, ?_⟩
              rw [Fence.inRound_round, Oper.semAt_some l' _ _ (by intro c hc; cases hc)]
              go_simp
              refine hK _ _ ?_
              clear hK K
              try simp only [Act.put, List.setIfInBounds_toArray, List.set_cons_zero, List.set_cons_succ]
              refine wpAnyIn_ready (rs := [4]) (by kernel_rfl) (by simp) ?_
              refine AllReadyIn.cons (o := _) rfl (fun K hK => ?_) ?_
              · rw [if_pos (by rfl)]
                refine ⟨fun _ _ => trivial, ?_⟩
                rw [Fence.inRound_round, Oper.semAt_some l' _ _ (by intro c hc; cases hc)]
                go_simp
                refine hK _ _ ?_
                clear hK K
                try simp only [Act.put, List.setIfInBounds_toArray, List.set_cons_zero, List.set_cons_succ]
                refine wpAnyIn_ready (rs := [6]) (by kernel_rfl) (by simp) ?_
                refine AllReadyIn.cons (o := _) rfl (fun K hK => ?_) ?_
                · rw [if_pos (by rfl)]
                  refine ⟨fun _ _ => trivial, ?_⟩
                  rw [Fence.inRound_round, Oper.semAt_some l' _ _ (by intro c hc; cases hc)]
                  go_simp
                  refine hK _ _ ?_
                  clear hK K
                  try simp only [Act.put, List.setIfInBounds_toArray, List.set_cons_zero, List.set_cons_succ]
                  refine wpAnyIn_ready (rs := [7]) (by kernel_rfl) (by simp) ?_
                  refine AllReadyIn.cons (o := _) rfl (fun K hK => ?_) ?_
                  · rw [if_pos (by rfl)]
                    refine ⟨fun _ _ => trivial, ?_⟩
                    rw [Fence.inRound_round, Oper.semAt_some l' _ _ (by intro c hc; cases hc)]
                    go_simp
                    refine hK _ _ ?_
                    clear hK K
                    try simp only [Act.put, List.setIfInBounds_toArray, List.set_cons_zero, List.set_cons_succ]
                    refine wpAnyIn_ready (rs := [8]) (by kernel_rfl) (by simp) ?_
                    refine AllReadyIn.cons (o := _) rfl (fun K hK => ?_) AllReadyIn.nil
                    rw [if_pos (by rfl)]
                    refine ⟨fun _ _ => trivial, ?_⟩
                    rw [Fence.inRound_round, Oper.semAt_some l' _ _ (by intro c hc; cases hc)]
                    go_simp
                    refine ⟨rfl, HRR.out.mono ?_⟩
                    rintro e w3 ⟨rfl, hM3, hKS⟩
                    dsimp only
                    refine hK _ _ ?_
                    clear hK K
                    try simp only [Act.put, List.setIfInBounds_toArray, List.set_cons_zero, List.set_cons_succ]
                    refine wpAnyIn_ready (rs := [9]) (by kernel_rfl) (by simp) ?_
                    refine AllReadyIn.cons (o := _) rfl (fun K hK => ?_) AllReadyIn.nil
                    rw [if_pos (by rfl)]
                    refine ⟨fun _ _ => trivial, ?_⟩
                    rw [Fence.inRound_round, Oper.semAt_some l' _ _ (by intro c hc; cases hc)]
                    go_simp
                    refine hK _ _ ?_
                    clear hK K
                    try simp only [Act.put, List.setIfInBounds_toArray, List.set_cons_zero, List.set_cons_succ]
                    refine wpAnyIn_done (by kernel_rfl) ?_ _
                    gi_wp2
                    exact FIN.out w3 hM3 hKS
                  exact AllReadyIn.nil
                exact AllReadyIn.nil
              exact AllReadyIn.nil
            exact AllReadyIn.nil
          exact AllReadyIn.nil
        refine AllReadyIn.cons (o := _) rfl (fun K hK => ?_) ?_
        · rw [if_pos (by rfl)]
          refine ⟨fun _ _ => trivial, ?_⟩
          rw [Fence.inRound_round, Oper.semAt_some l' _ _ (by intro c hc; cases hc)]
          go_simp
          refine hK _ _ ?_
          clear hK K
          try simp only [Act.put, List.setIfInBounds_toArray, List.set_cons_zero, List.set_cons_succ]
          refine wpAnyIn_ready (rs := [2]) (by kernel_rfl) (by simp) ?_
          refine AllReadyIn.cons (o := _) rfl (fun K hK => ?_) ?_
          · rw [if_pos (by rfl)]
            refine ⟨fun _ _ => trivial, ?_⟩
            rw [Fence.inRound_round, Oper.semAt_some l' _ _ (by intro c hc; cases hc)]
            go_simp
            refine hK _ _ ?_
            clear hK K
            try simp only [Act.put, List.setIfInBounds_toArray, List.set_cons_zero, List.set_cons_succ]
            refine wpAnyIn_ready (rs := [3]) (by kernel_rfl) (by simp) ?_
            refine AllReadyIn.cons (o := _) rfl (fun K hK => ?_) ?_
            · rw [if_pos (by rfl)]
              refine ⟨fun _ _ => trivial, ?_⟩
              rw [Fence.inRound_round, Oper.semAt_some l' _ _ (by intro c hc; cases hc)]
              go_simp
              refine hK _ _ ?_
              clear hK K
              try simp only [Act.put, List.setIfInBounds_toArray, List.set_cons_zero, List.set_cons_succ]
              refine wpAnyIn_ready (rs := [4]) (by kernel_rfl) (by simp) ?_
              refine AllReadyIn.cons (o := _) rfl (fun K hK => ?_) ?_
              · rw [if_pos (by rfl)]
                refine ⟨fun _ _ => trivial, ?_⟩
                rw [Fence.inRound_round, Oper.semAt_some l' _ _ (by intro c hc; cases hc)]
                go_simp
                refine hK _ _ ?_
                clear hK K
                try simp only [Act.put, List.setIfInBounds_toArray, List.set_cons_zero, List.set_cons_succ]
                refine wpAnyIn_ready (rs := [6]) (by kernel_rfl) (by simp) ?_
                refine AllReadyIn.cons (o := _) rfl (fun K hK => ?_) ?_
                · rw [if_pos (by rfl)]
                  refine ⟨fun _ _ => trivial, ?_⟩
                  rw [Fence.inRound_round, Oper.semAt_some l' _ _ (by intro c hc; cases hc)]
                  go_simp
                  refine hK _ _ ?_
                  clear hK K
                  try simp only [Act.put, List.setIfInBounds_toArray, List.set_cons_zero, List.set_cons_succ]
                  refine wpAnyIn_ready (rs := [7]) (by kernel_rfl) (by simp) ?_
                  refine AllReadyIn.cons (o := _) rfl (fun K hK => ?_) ?_
                  · rw [if_pos (by rfl)]
                    refine ⟨fun _ _ => trivial, ?_⟩
                    rw [Fence.inRound_round, Oper.semAt_some l' _ _ (by intro c hc; cases hc)]
                    go_simp
                    refine hK _ _ ?_
                    clear hK K
                    try simp only [Act.put, List.setIfInBounds_toArray, List.set_cons_zero, List.set_cons_succ]
                    refine wpAnyIn_ready (rs := [8]) (by kernel_rfl) (by simp) ?_
                    refine AllReadyIn.cons (o := _) rfl (fun K hK => ?_) AllReadyIn.nil
                    rw [if_pos (by rfl)]
                    refine ⟨fun _ _ => trivial, ?_⟩
                    rw [Fence.inRound_round, Oper.semAt_some l' _ _ (by intro c hc; cases hc)]
                    go_simp
                    refine ⟨rfl, HRR.out.mono ?_⟩
                    rintro e w3 ⟨rfl, hM3, hKS⟩
                    dsimp only
                    refine hK _ _ ?_
                    clear hK K
                    try simp only [Act.put, List.setIfInBounds_toArray, List.set_cons_zero, List.set_cons_succ]
                    refine wpAnyIn_ready (rs := [9]) (by kernel_rfl) (by simp) ?_
                    refine AllReadyIn.cons (o := _) rfl (fun K hK => ?_) AllReadyIn.nil
                    rw [if_pos (by rfl)]
                    refine ⟨fun _ _ => trivial, ?_⟩
                    rw [Fence.inRound_round, Oper.semAt_some l' _ _ (by intro c hc; cases hc)]
                    go_simp
                    refine hK _ _ ?_
                    clear hK K
                    try simp only [Act.put, List.setIfInBounds_toArray, List.set_cons_zero, List.set_cons_succ]
                    refine wpAnyIn_done (by kernel_rfl) ?_ _
                    gi_wp2
                    exact FIN.out w3 hM3 hKS
                  exact AllReadyIn.nil
                exact AllReadyIn.nil
              exact AllReadyIn.nil
            exact AllReadyIn.nil
          exact AllReadyIn.nil
        exact AllReadyIn.nil
      refine AllReadyIn.cons (o := _) rfl (fun K hK => ?_) ?_
      · rw [if_pos (by rfl)]
        refine ⟨fun _ _ => trivial, ?_⟩
        rw [Fence.inRound_round, Oper.semAt_some l' _ _ (by intro c hc; cases hc)]
        go_simp
        refine hK _ _ ?_
        clear hK K
        try simp only [Act.put, List.setIfInBounds_toArray, List.set_cons_zero, List.set_cons_succ]
        refine wpAnyIn_ready (rs := [1]) (by kernel_rfl) (by simp) ?_
        refine AllReadyIn.cons (o := _) rfl (fun K hK => ?_) ?_
        · rw [if_pos (by rfl)]
          refine ⟨fun _ _ => trivial, ?_⟩
          rw [Fence.inRound_round, Oper.semAt_some l' _ _ (by intro c hc; cases hc)]
          go_simp
          refine hK _ _ ?_
          clear hK K
          try simp only [Act.put, List.setIfInBounds_toArray, List.set_cons_zero, List.set_cons_succ]
          refine wpAnyIn_ready (rs := [2]) (by kernel_rfl) (by simp) ?_
          refine AllReadyIn.cons (o := _) rfl (fun K hK => ?_) ?_
          · rw [if_pos (by rfl)]
            refine ⟨fun _ _ => trivial, ?_⟩
            rw [Fence.inRound_round, Oper.semAt_some l' _ _ (by intro c hc; cases hc)]
            go_simp
            refine hK _ _ ?_
            clear hK K
            try simp only [Act.put, List.setIfInBounds_toArray, List.set_cons_zero, List.set_cons_succ]
            refine wpAnyIn_ready (rs := [3]) (by kernel_rfl) (by simp) ?_
            refine AllReadyIn.cons (o := _) rfl (fun K hK => ?_) ?_
            · rw [if_pos (by rfl)]
              refine ⟨fun _ _ => trivial, ?_⟩
              rw [Fence.inRound_round, Oper.semAt_some l' _ _ (by intro c hc; cases hc)]
              go_simp
              refine hK _ _ ?_
              clear hK K
              try simp only [Act.put, List.setIfInBounds_toArray, List.set_cons_zero, List.set_cons_succ]
              refine wpAnyIn_ready (rs := [4]) (by kernel_rfl) (by simp) ?_
              refine AllReadyIn.cons (o := _) rfl (fun K hK => ?_) ?_
              · rw [if_pos (by rfl)]
                refine ⟨fun _ _ => trivial, ?_⟩
                rw [Fence.inRound_round, Oper.semAt_some l' _ _ (by intro c hc; cases hc)]
                go_simp
                refine hK _ _ ?_
                clear hK K
                try simp only [Act.put, List.setIfInBounds_toArray, List.set_cons_zero, List.set_cons_succ]
                refine wpAnyIn_ready (rs := [6]) (by kernel_rfl) (by simp) ?_
                refine AllReadyIn.cons (o := _) rfl (fun K hK => ?_) ?_
                · rw [if_pos (by rfl)]
                  refine ⟨fun _ _ => trivial, ?_⟩
                  rw [Fence.inRound_round, Oper.semAt_some l' _ _ (by intro c hc; cases hc)]
                  go_simp
                  refine hK _ _ ?_
                  clear hK K
                  try simp only [Act.put, List.setIfInBounds_toArray, List.set_cons_zero, List.set_cons_succ]
                  refine wpAnyIn_ready (rs := [7]) (by kernel_rfl) (by simp) ?_
                  refine AllReadyIn.cons (o := _) rfl (fun K hK => ?_) ?_
                  · rw [if_pos (by rfl)]
                    refine ⟨fun _ _ => trivial, ?_⟩
                    rw [Fence.inRound_round, Oper.semAt_some l' _ _ (by intro c hc; cases hc)]
                    go_simp
                    refine hK _ _ ?_
                    clear hK K
                    try simp only [Act.put, List.setIfInBounds_toArray, List.set_cons_zero, List.set_cons_succ]
                    refine wpAnyIn_ready (rs := [8]) (by kernel_rfl) (by simp) ?_
                    refine AllReadyIn.cons (o := _) rfl (fun K hK => ?_) AllReadyIn.nil
                    rw [if_pos (by rfl)]
                    refine ⟨fun _ _ => trivial, ?_⟩
                    rw [Fence.inRound_round, Oper.semAt_some l' _ _ (by intro c hc; cases hc)]
                    go_simp
                    refine ⟨rfl, HRR.out.mono ?_⟩
                    rintro e w3 ⟨rfl, hM3, hKS⟩
                    dsimp only
                    refine hK _ _ ?_
                    clear hK K
                    try simp only [Act.put, List.setIfInBounds_toArray, List.set_cons_zero, List.set_cons_succ]
                    refine wpAnyIn_ready (rs := [9]) (by kernel_rfl) (by simp) ?_
                    refine AllReadyIn.cons (o := _) rfl (fun K hK => ?_) AllReadyIn.nil
                    rw [if_pos (by rfl)]
                    refine ⟨fun _ _ => trivial, ?_⟩
                    rw [Fence.inRound_round, Oper.semAt_some l' _ _ (by intro c hc; cases hc)]
                    go_simp
                    refine hK _ _ ?_
                    clear hK K
                    try simp only [Act.put, List.setIfInBounds_toArray, List.set_cons_zero, List.set_cons_succ]
                    refine wpAnyIn_done (by kernel_rfl) ?_ _
                    gi_wp2
                    exact FIN.out w3 hM3 hKS
                  exact AllReadyIn.nil
                exact AllReadyIn.nil
              exact AllReadyIn.nil
            exact AllReadyIn.nil
          exact AllReadyIn.nil
        exact AllReadyIn.nil
      exact AllReadyIn.nil
    refine AllReadyIn.cons (o := _) rfl (fun K hK => ?_) ?_
    · rw [if_pos (by rfl)]
      refine ⟨fun _ _ => trivial, ?_⟩
      rw [Fence.inRound_round, Oper.semAt_some l' _ _ (by intro c hc; cases hc)]
      go_simp
      refine hK _ _ ?_
      clear hK K
      try simp only [Act.put, List.setIfInBounds_toArray, List.set_cons_zero, List.set_cons_succ]
      refine wpAnyIn_ready (rs := [0, 2, 5]) (by kernel_rfl) (by simp) ?_
      refine AllReadyIn.cons (o := _) rfl (fun K hK => ?_) ?_
      · rw [if_pos (by rfl)]
        refine ⟨fun _ _ => trivial, ?_⟩
        rw [Fence.inRound_round, Oper.semAt_some l' _ _ (by intro c hc; cases hc)]
        go_simp
        refine hK _ _ ?_
        clear hK K
        try simp only [Act.put, List.setIfInBounds_toArray, List.set_cons_zero, List.set_cons_succ]
        refine wpAnyIn_ready (rs := [2, 5]) (by kernel_rfl) (by simp) ?_
        refine AllReadyIn.cons (o := _) rfl (fun K hK => ?_) ?_
        · rw [if_pos (by rfl)]
          refine ⟨fun _ _ => trivial, ?_⟩
          rw [Fence.inRound_round, Oper.semAt_some l' _ _ (by intro c hc; cases hc)]
          go_simp
          refine hK _ _ ?_
          clear hK K
          try simp only [Act.put, List.setIfInBounds_toArray, List.set_cons_zero, List.set_cons_succ]
          refine wpAnyIn_ready (rs := [3, 5]) (by kernel_rfl) (by simp) ?_
          refine AllReadyIn.cons (o := _) rfl (fun K hK => ?_) ?_
          · rw [if_pos (by rfl)]
            refine ⟨fun _ _ => trivial, ?_⟩
            rw [Fence.inRound_round, Oper.semAt_some l' _ _ (by intro c hc; cases hc)]
            go_simp
            refine hK _ _ ?_
            clear hK K
            try simp only [Act.put, List.setIfInBounds_toArray, List.set_cons_zero, List.set_cons_succ]
            refine wpAnyIn_ready (rs := [4, 5]) (by kernel_rfl) (by simp) ?_
            refine AllReadyIn.cons (o := _) rfl (fun K hK => ?_) ?_
            · rw [if_pos (by rfl)]
              refine ⟨fun _ _ => trivial, ?_⟩
              rw [Fence.inRound_round, Oper.semAt_some l' _ _ (by intro c hc; cases hc)]
              go_simp
              refine hK _ _ ?_
              clear hK K
              try simp only [Act.put, List.setIfInBounds_toArray, List.set_cons_zero, List.set_cons_succ]
              refine wpAnyIn_ready (rs := [5]) (by kernel_rfl) (by simp) ?_
              refine AllReadyIn.cons (o := _) rfl (fun K hK => ?_) ?_
              · rw [if_pos (by rfl)]
                refine ⟨fun _ _ => trivial, ?_⟩
                rw [Fence.inRound_round, Oper.semAt_some l' _ _ (by intro c hc; cases hc)]
                go_simp
                refine hK _ _ ?_
                clear hK K
                try simp only [Act.put, List.setIfInBounds_toArray, List.set_cons_zero, List.set_cons_succ]
                refine wpAnyIn_ready (rs := [6]) (by kernel_rfl) (by simp) ?_
                refine AllReadyIn.cons (o := _) rfl (fun K hK => ?_) ?_
                · rw [if_pos (by rfl)]
                  refine ⟨fun _ _ => trivial, ?_⟩
                  rw [Fence.inRound_round, Oper.semAt_some l' _ _ (by intro c hc; cases hc)]
                  go_simp
                  refine hK _ _ ?_
                  clear hK K
                  try simp only [Act.put, List.setIfInBounds_toArray, List.set_cons_zero, List.set_cons_succ]
                  refine wpAnyIn_ready (rs := [7]) (by kernel_rfl) (by simp) ?_
                  refine AllReadyIn.cons (o := _) rfl (fun K hK => ?_) ?_
                  · rw [if_pos (by rfl)]
                    refine ⟨fun _ _ => trivial, ?_⟩
                    rw [Fence.inRound_round, Oper.semAt_some l' _ _ (by intro c hc; cases hc)]
                    go_simp
                    refine hK _ _ ?_
                    clear hK K
                    try simp only [Act.put, List.setIfInBounds_toArray, List.set_cons_zero, List.set_cons_succ]
                    refine wpAnyIn_ready (rs := [8]) (by kernel_rfl) (by simp) ?_
                    refine AllReadyIn.cons (o := _) rfl (fun K hK => ?_) AllReadyIn.nil
                    rw [if_pos (by rfl)]
                    refine ⟨fun _ _ => trivial, ?_⟩
                    rw [Fence.inRound_round, Oper.semAt_some l' _ _ (by intro c hc; cases hc)]
                    go_simp
                    refine ⟨rfl, HRR.out.mono ?_⟩
                    rintro e w3 ⟨rfl, hM3, hKS⟩
                    dsimp only
                    refine hK _ _ ?_
                    clear hK K
                    try simp only [Act.put, List.setIfInBounds_toArray, List.set_cons_zero, List.set_cons_succ]
                    refine wpAnyIn_ready (rs := [9]) (by kernel_rfl) (by simp) ?_
                    refine AllReadyIn.cons (o := _) rfl (fun K hK => ?_) AllReadyIn.nil
                    rw [if_pos (by rfl)]
                    refine ⟨fun _ _ => trivial, ?_⟩
                    rw [Fence.inRound_round, Oper.semAt_some l' _ _ (by intro c hc; cases hc)]
                    go_simp
                    refine hK _ _ ?_
                    clear hK K
                    try simp only [Act.put, List.setIfInBounds_toArray, List.set_cons_zero, List.set_cons_succ]
                    refine wpAnyIn_done (by kernel_rfl) ?_ _
                    gi_wp2
                    exact FIN.out w3 hM3 hKS
                  exact AllReadyIn.nil
                exact AllReadyIn.nil
              exact AllReadyIn.nil
            refine AllReadyIn.cons (o := _) rfl (fun K hK => ?_) ?_
            · rw [if_pos (by rfl)]
              refine ⟨fun _ _ => trivial, ?_⟩
              rw [Fence.inRound_round, Oper.semAt_some l' _ _ (by intro c hc; cases hc)]
              go_simp
              refine hK _ _ ?_
              clear hK K
              try simp only [Act.put, List.setIfInBounds_toArray, List.set_cons_zero, List.set_cons_succ]
              refine wpAnyIn_ready (rs := [4]) (by kernel_rfl) (by simp) ?_
              refine AllReadyIn.cons (o := _) rfl (fun K hK => ?_) ?_
              · rw [if_pos (by rfl)]
                refine ⟨fun _ _ => trivial, ?_⟩
                rw [Fence.inRound_round, Oper.semAt_some l' _ _ (by intro c hc; cases hc)]
                go_simp
                refine hK _ _ ?_
                clear hK K
                try simp only [Act.put, List.setIfInBounds_toArray, List.set_cons_zero, List.set_cons_succ]
                refine wpAnyIn_ready (rs := [6]) (by kernel_rfl) (by simp) ?_
                refine AllReadyIn.cons (o := _) rfl (fun K hK => ?_) ?_
                · rw [if_pos (by rfl)]
                  refine ⟨fun _ _ => trivial, ?_⟩
                  rw [Fence.inRound_round, Oper.semAt_some l' _ _ (by intro c hc; cases hc)]
                  go_simp
                  refine hK _ _ ?_
                  clear hK K
                  try simp only [Act.put, List.setIfInBounds_toArray, List.set_cons_zero, List.set_cons_succ]
                  refine wpAnyIn_ready (rs := [7]) (by kernel_rfl) (by simp) ?_
                  refine AllReadyIn.cons (o := _) rfl (fun K hK => ?_) ?_
                  · rw [if_pos (by rfl)]
                    refine ⟨fun _ _ => trivial, ?_⟩
                    rw [Fence.inRound_round, Oper.semAt_some l' _ _ (by intro c hc; cases hc)]
                    go_simp
                    refine hK _ _ ?_
                    clear hK K
                    try simp only [Act.put, List.setIfInBounds_toArray, List.set_cons_zero, List.set_cons_succ]
                    refine wpAnyIn_ready (rs := [8]) (by kernel_rfl) (by simp) ?_
                    refine AllReadyIn.cons (o := _) rfl (fun K hK => ?_) AllReadyIn.nil
                    rw [if_pos (by rfl)]
                    refine ⟨fun _ _ => trivial, ?_⟩
                    rw [Fence.inRound_round, Oper.semAt_some l' _ _ (by intro c hc; cases hc)]
                    go_simp
                    refine ⟨rfl, HRR.out.mono ?_⟩
                    rintro e w3 ⟨rfl, hM3, hKS⟩
                    dsimp only
                    refine hK _ _ ?_
                    clear hK K
                    try simp only [Act.put, List.setIfInBounds_toArray, List.set_cons_zero, List.set_cons_succ]
                    refine wpAnyIn_ready (rs := [9]) (by kernel_rfl) (by simp) ?_
                    refine AllReadyIn.cons (o := _) rfl (fun K hK => ?_) AllReadyIn.nil
                    rw [if_pos (by rfl)]
                    refine ⟨fun _ _ => trivial, ?_⟩
                    rw [Fence.inRound_round, Oper.semAt_some l' _ _ (by intro c hc; cases hc)]
                    go_simp
                    refine hK _ _ ?_
                    clear hK K
                    try simp only [Act.put, List.setIfInBounds_toArray, List.set_cons_zero, List.set_cons_succ]
                    refine wpAnyIn_done (by kernel_rfl) ?_ _
                    gi_wp2
                    exact FIN.out w3 hM3 hKS
                  exact AllReadyIn.nil
                exact AllReadyIn.nil
              exact AllReadyIn.nil
            exact AllReadyIn.nil
          refine AllReadyIn.cons (o := _) rfl (fun K hK => ?_) ?_
          · rw [if_pos (by rfl)]
            refine ⟨fun _ _ => trivial, ?_⟩
            rw [Fence.inRound_round, Oper.semAt_some l' _ _ (by intro c hc; cases hc)]
            go_simp
            refine hK _ _ ?_
            clear hK K
            try simp only [Act.put, List.setIfInBounds_toArray, List.set_cons_zero, List.set_cons_succ]
            refine wpAnyIn_ready (rs := [3]) (by kernel_rfl) (by simp) ?_
            refine AllReadyIn.cons (o := _) rfl (fun K hK => ?_) ?_
            · rw [if_pos (by rfl)]
              refine ⟨fun _ _ => trivial, ?_⟩
              rw [Fence.inRound_round, Oper.semAt_some l' _ _ (by intro c hc; cases hc)]
              go_simp
              refine hK _ _ ?_
              clear hK K
              try simp only [Act.put, List.setIfInBounds_toArray, List.set_cons_zero, List.set_cons_succ]
              refine wpAnyIn_ready (rs := [4]) (by kernel_rfl) (by simp) ?_
              refine AllReadyIn.cons (o := _) rfl (fun K hK => ?_) ?_
              · rw [if_pos (by rfl)]
                refine ⟨fun _ _ => trivial, ?_⟩
                rw [Fence.inRound_round, Oper.semAt_some l' _ _ (by intro c hc; cases hc)]
                go_simp
                refine hK _ _ ?_
                clear hK K
                try simp only [Act.put, List.setIfInBounds_toArray, List.set_cons_zero, List.set_cons_succ]
                refine wpAnyIn_ready (rs := [6]) (by kernel_rfl) (by simp) ?_
                refine AllReadyIn.cons (o := _) rfl (fun K hK => ?_) ?_
                · rw [if_pos (by rfl)]
                  refine ⟨fun _ _ => trivial, ?_⟩
                  rw [Fence.inRound_round, Oper.semAt_some l' _ _ (by intro c hc; cases hc)]
                  go_simp
                  refine hK _ _ ?_
                  clear hK K
                  try simp only [Act.put, List.setIfInBounds_toArray, List.set_cons_zero, List.set_cons_succ]
                  refine wpAnyIn_ready (rs := [7]) (by kernel_rfl) (by simp) ?_
                  refine AllReadyIn.cons (o := _) rfl (fun K hK => ?_) ?_
                  · rw [if_pos (by rfl)]
                    refine ⟨fun _ _ => trivial, ?_⟩
                    rw [Fence.inRound_round, Oper.semAt_some l' _ _ (by intro c hc; cases hc)]
                    go_simp
                    refine hK _ _ ?_
                    clear hK K
                    try simp only [Act.put, List.setIfInBounds_toArray, List.set_cons_zero, List.set_cons_succ]
                    refine wpAnyIn_ready (rs := [8]) (by kernel_rfl) (by simp) ?_
                    refine AllReadyIn.cons (o := _) rfl (fun K hK => ?_) AllReadyIn.nil
                    rw [if_pos (by rfl)]
                    refine ⟨fun _ _ => trivial, ?_⟩
                    rw [Fence.inRound_round, Oper.semAt_some l' _ _ (by intro c hc; cases hc)]
                    go_simp
                    refine ⟨rfl, HRR.out.mono ?_⟩
                    rintro e w3 ⟨rfl, hM3, hKS⟩
                    dsimp only
                    refine hK _ _ ?_
                    clear hK K
                    try simp only [Act.put, List.setIfInBounds_toArray, List.set_cons_zero, List.set_cons_succ]
                    refine wpAnyIn_ready (rs := [9]) (by kernel_rfl) (by simp) ?_
                    refine AllReadyIn.cons (o := _) rfl (fun K hK => ?_) AllReadyIn.nil
                    rw [if_pos (by rfl)]
                    refine ⟨fun _ _ => trivial, ?_⟩
                    rw [Fence.inRound_round, Oper.semAt_some l' _ _ (by intro c hc; cases hc)]
                    go_simp
                    refine hK _ _ ?_
                    clear hK K
                    try simp only [Act.put, List.setIfInBounds_toArray, List.set_cons_zero, List.set_cons_succ]
                    refine wpAnyIn_done (by kernel_rfl) ?_ _
                    gi_wp2
                    exact FIN.out w3 hM3 hKS
                  exact AllReadyIn.nil
                exact AllReadyIn.nil
              exact AllReadyIn.nil
            exact AllReadyIn.nil
          exact AllReadyIn.nil
        refine AllReadyIn.cons (o := _) rfl (fun K hK => ?_) ?_
        · rw [if_pos (by rfl)]
          refine ⟨fun _ _ => trivial, ?_⟩
          rw [Fence.inRound_round, Oper.semAt_some l' _ _ (by intro c hc; cases hc)]
          go_simp
          refine hK _ _ ?_
          clear hK K
          try simp only [Act.put, List.setIfInBounds_toArray, List.set_cons_zero, List.set_cons_succ]
          refine wpAnyIn_ready (rs := [2]) (by kernel_rfl) (by simp) ?_
          refine AllReadyIn.cons (o := _) rfl (fun K hK => ?_) ?_
          · rw [if_pos (by rfl)]
            refine ⟨fun _ _ => trivial, ?_⟩
            rw [Fence.inRound_round, Oper.semAt_some l' _ _ (by intro c hc; cases hc)]
            go_simp
            refine hK _ _ ?_
            clear hK K
            try simp only [Act.put, List.setIfInBounds_toArray, List.set_cons_zero, List.set_cons_succ]
            refine wpAnyIn_ready (rs := [3]) (by kernel_rfl) (by simp) ?_
            refine AllReadyIn.cons (o := _) rfl (fun K hK => ?_) ?_
            · rw [if_pos (by rfl)]
              refine ⟨fun _ _ => trivial, ?_⟩
              rw [Fence.inRound_round, Oper.semAt_some l' _ _ (by intro c hc; cases hc)]
              go_simp
              refine hK _ _ ?_
              clear hK K
              try simp only [Act.put, List.setIfInBounds_toArray, List.set_cons_zero, List.set_cons_succ]
              refine wpAnyIn_ready (rs := [4]) (by kernel_rfl) (by simp) ?_
              refine AllReadyIn.cons (o := _) rfl (fun K hK => ?_) ?_
              · rw [if_pos (by rfl)]
                refine ⟨fun _ _ => trivial, ?_⟩
                rw [Fence.inRound_round, Oper.semAt_some l' _ _ (by intro c hc; cases hc)]
                go_simp
                refine hK _ _ ?_
                clear hK K
                try simp only [Act.put, List.setIfInBounds_toArray, List.set_cons_zero, List.set_cons_succ]
                refine wpAnyIn_ready (rs := [6]) (by kernel_rfl) (by simp) ?_
                refine AllReadyIn.cons (o := _) rfl (fun K hK => ?_) ?_
                · rw [if_pos (by rfl)]
                  refine ⟨fun _ _ => trivial, ?_⟩
                  rw [Fence.inRound_round, Oper.semAt_some l' _ _ (by intro c hc; cases hc)]
                  go_simp
                  refine hK _ _ ?_
                  clear hK K
                  try simp only [Act.put, List.setIfInBounds_toArray, List.set_cons_zero, List.set_cons_succ]
                  refine wpAnyIn_ready (rs := [7]) (by kernel_rfl) (by simp) ?_
                  refine AllReadyIn.cons (o := _) rfl (fun K hK => ?_) ?_
                  · rw [if_pos (by rfl)]
                    refine ⟨fun _ _ => trivial, ?_⟩
                    rw [Fence.inRound_round, Oper.semAt_some l' _ _ (by intro c hc; cases hc)]
                    go_simp
                    refine hK _ _ ?_
                    clear hK K
                    try simp only [Act.put, List.setIfInBounds_toArray, List.set_cons_zero, List.set_cons_succ]
                    refine wpAnyIn_ready (rs := [8]) (by kernel_rfl) (by simp) ?_
                    refine AllReadyIn.cons (o := _) rfl (fun K hK => ?_) AllReadyIn.nil
                    rw [if_pos (by rfl)]
                    refine ⟨fun _ _ => trivial, ?_⟩
                    rw [Fence.inRound_round, Oper.semAt_some l' _ _ (by intro c hc; cases hc)]
                    go_simp
                    refine ⟨rfl, HRR.out.mono ?_⟩
                    rintro e w3 ⟨rfl, hM3, hKS⟩
                    dsimp only
                    refine hK _ _ ?_
                    clear hK K
                    try simp only [Act.put, List.setIfInBounds_toArray, List.set_cons_zero, List.set_cons_succ]
                    refine wpAnyIn_ready (rs := [9]) (by kernel_rfl) (by simp) ?_
                    refine AllReadyIn.cons (o := _) rfl (fun K hK => ?_) AllReadyIn.nil
                    rw [if_pos (by rfl)]
                    refine ⟨fun _ _ => trivial, ?_⟩
                    rw [Fence.inRound_round, Oper.semAt_some l' _ _ (by intro c hc; cases hc)]
                    go_simp
                    refine hK _ _ ?_
                    clear hK K
                    try simp only [Act.put, List.setIfInBounds_toArray, List.set_cons_zero, List.set_cons_succ]
                    refine wpAnyIn_done (by kernel_rfl) ?_ _
                    gi_wp2
                    exact FIN.out w3 hM3 hKS
                  exact AllReadyIn.nil
                exact AllReadyIn.nil
              exact AllReadyIn.nil
            exact AllReadyIn.nil
          exact AllReadyIn.nil
        exact AllReadyIn.nil
      refine AllReadyIn.cons (o := _) rfl (fun K hK => ?_) ?_
      · rw [if_pos (by rfl)]
        refine ⟨fun _ _ => trivial, ?_⟩
        rw [Fence.inRound_round, Oper.semAt_some l' _ _ (by intro c hc; cases hc)]
        go_simp
        refine hK _ _ ?_
        clear hK K
        try simp only [Act.put, List.setIfInBounds_toArray, List.set_cons_zero, List.set_cons_succ]
        refine wpAnyIn_ready (rs := [0, 3, 5]) (by kernel_rfl) (by simp) ?_
        refine AllReadyIn.cons (o := _) rfl (fun K hK => ?_) ?_
        · rw [if_pos (by rfl)]
          refine ⟨fun _ _ => trivial, ?_⟩
          rw [Fence.inRound_round, Oper.semAt_some l' _ _ (by intro c hc; cases hc)]
          go_simp
          refine hK _ _ ?_
          clear hK K
          try simp only [Act.put, List.setIfInBounds_toArray, List.set_cons_zero, List.set_cons_succ]
          refine wpAnyIn_ready (rs := [3, 5]) (by kernel_rfl) (by simp) ?_
          refine AllReadyIn.cons (o := _) rfl (fun K hK => ?_) ?_
          · rw [if_pos (by rfl)]
            refine ⟨fun _ _ => trivial, ?_⟩
            rw [Fence.inRound_round, Oper.semAt_some l' _ _ (by intro c hc; cases hc)]
            go_simp
            refine hK _ _ ?_
            clear hK K
            try simp only [Act.put, List.setIfInBounds_toArray, List.set_cons_zero, List.set_cons_succ]
            refine wpAnyIn_ready (rs := [4, 5]) (by kernel_rfl) (by simp) ?_
            refine AllReadyIn.cons (o := _) rfl (fun K hK => ?_) ?_
            · rw [if_pos (by rfl)]
              refine ⟨fun _ _ => trivial, ?_⟩
              rw [Fence.inRound_round, Oper.semAt_some l' _ _ (by intro c hc; cases hc)]
              go_simp
              refine hK _ _ ?_
              clear hK K
              try simp only [Act.put, List.setIfInBounds_toArray, List.set_cons_zero, List.set_cons_succ]
              refine wpAnyIn_ready (rs := [5]) (by kernel_rfl) (by simp) ?_
              refine AllReadyIn.cons (o := _) rfl (fun K hK => ?_) ?_
              · rw [if_pos (by rfl)]
                refine ⟨fun _ _ => trivial, ?_⟩
                rw [Fence.inRound_round, Oper.semAt_some l' _ _ (by intro c hc; cases hc)]
                go_simp
                refine hK _ _ ?_
                clear hK K
                try simp only [Act.put, List.setIfInBounds_toArray, List.set_cons_zero, List.set_cons_succ]
                refine wpAnyIn_ready (rs := [6]) (by kernel_rfl) (by simp) ?_
                refine AllReadyIn.cons (o := _) rfl (fun K hK => ?_) ?_
                · rw [if_pos (by rfl)]
                  refine ⟨fun _ _ => trivial, ?_⟩
                  rw [Fence.inRound_round, Oper.semAt_some l' _ _ (by intro c hc; cases hc)]
                  go_simp
                  refine hK _ _ ?_
                  clear hK K
                  try simp only [Act.put, List.setIfInBounds_toArray, List.set_cons_zero, List.set_cons_succ]
                  refine wpAnyIn_ready (rs := [7]) (by kernel_rfl) (by simp) ?_
                  refine AllReadyIn.cons (o := _) rfl (fun K hK => ?_) ?_
                  · rw [if_pos (by rfl)]
                    refine ⟨fun _ _ => trivial, ?_⟩
                    rw [Fence.inRound_round, Oper.semAt_some l' _ _ (by intro c hc; cases hc)]
                    go_simp
                    refine hK _ _ ?_
                    clear hK K
                    try simp only [Act.put, List.setIfInBounds_toArray, List.set_cons_zero, List.set_cons_succ]
                    refine wpAnyIn_ready (rs := [8]) (by kernel_rfl) (by simp) ?_
                    refine AllReadyIn.cons (o := _) rfl (fun K hK => ?_) AllReadyIn.nil
                    rw [if_pos (by rfl)]
                    refine ⟨fun _ _ => trivial, ?_⟩
                    rw [Fence.inRound_round, Oper.semAt_some l' _ _ (by intro c hc; cases hc)]
                    go_simp
                    refine ⟨rfl, HRR.out.mono ?_⟩
                    rintro e w3 ⟨rfl, hM3, hKS⟩
                    dsimp only
                    refine hK _ _ ?_
                    clear hK K
                    try simp only [Act.put, List.setIfInBounds_toArray, List.set_cons_zero, List.set_cons_succ]
                    refine wpAnyIn_ready (rs := [9]) (by kernel_rfl) (by simp) ?_
                    refine AllReadyIn.cons (o := _) rfl (fun K hK => ?_) AllReadyIn.nil
                    rw [if_pos (by rfl)]
                    refine ⟨fun _ _ => trivial, ?_⟩
                    rw [Fence.inRound_round, Oper.semAt_some l' _ _ (by intro c hc; cases hc)]
                    go_simp
                    refine hK _ _ ?_
                    clear hK K
                    try simp only [Act.put, List.setIfInBounds_toArray, List.set_cons_zero, List.set_cons_succ]
                    refine wpAnyIn_done (by kernel_rfl) ?_ _
                    gi_wp2
                    exact FIN.out w3 hM3 hKS
                  exact AllReadyIn.nil
                exact AllReadyIn.nil
              exact AllReadyIn.nil
            refine AllReadyIn.cons (o := _) rfl (fun K hK => ?_) ?_
            · rw [if_pos (by rfl)]
              refine ⟨fun _ _ => trivial, ?_⟩
              rw [Fence.inRound_round, Oper.semAt_some l' _ _ (by intro c hc; cases hc)]
              go_simp
              refine hK _ _ ?_
              clear hK K
              try simp only [Act.put, List.setIfInBounds_toArray, List.set_cons_zero, List.set_cons_succ]
              refine wpAnyIn_ready (rs := [4]) (by kernel_rfl) (by simp) ?_
              refine AllReadyIn.cons (o := _) rfl (fun K hK => ?_) ?_
              · rw [if_pos (by rfl)]
                refine ⟨fun _ _ => trivial, ?_⟩
                rw [Fence.inRound_round, Oper.semAt_some l' _ _ (by intro c hc; cases hc)]
                go_simp
                refine hK _ _ ?_
                clear hK K
                try simp only [Act.put, List.setIfInBounds_toArray, List.set_cons_zero, List.set_cons_succ]
                refine wpAnyIn_ready (rs := [6]) (by kernel_rfl) (by simp) ?_
                refine AllReadyIn.cons (o := _) rfl (fun K hK => ?_) ?_
                · rw [if_pos (by rfl)]
                  refine ⟨fun _ _ => trivial, ?_⟩
                  rw [Fence.inRound_round, Oper.semAt_some l' _ _ (by intro c hc; cases hc)]
                  go_simp
                  refine hK _ _ ?_
                  clear hK K
                  try simp only [Act.put, List.setIfInBounds_toArray, List.set_cons_zero, List.set_cons_succ]
                  refine wpAnyIn_ready (rs := [7]) (by kernel_rfl) (by simp) ?_
                  refine AllReadyIn.cons (o := _) rfl (fun K hK => ?_) ?_
                  · rw [if_pos (by rfl)]
                    refine ⟨fun _ _ => trivial, ?_⟩
                    rw [Fence.inRound_round, Oper.semAt_some l' _ _ (by intro c hc; cases hc)]
                    go_simp
                    refine hK _ _ ?_
                    clear hK K
                    try simp only [Act.put, List.setIfInBounds_toArray, List.set_cons_zero, List.set_cons_succ]
                    refine wpAnyIn_ready (rs := [8]) (by kernel_rfl) (by simp) ?_
                    refine AllReadyIn.cons (o := _) rfl (fun K hK => ?_) AllReadyIn.nil
                    rw [if_pos (by rfl)]
                    refine ⟨fun _ _ => trivial, ?_⟩
                    rw [Fence.inRound_round, Oper.semAt_some l' _ _ (by intro c hc; cases hc)]
                    go_simp
                    refine ⟨rfl, HRR.out.mono ?_⟩
                    rintro e w3 ⟨rfl, hM3, hKS⟩
                    dsimp only
                    refine hK _ _ ?_
                    clear hK K
                    try simp only [Act.put, List.setIfInBounds_toArray, List.set_cons_zero, List.set_cons_succ]
                    refine wpAnyIn_ready (rs := [9]) (by kernel_rfl) (by simp) ?_
                    refine AllReadyIn.cons (o := _) rfl (fun K hK => ?_) AllReadyIn.nil
                    rw [if_pos (by rfl)]
                    refine ⟨fun _ _ => trivial, ?_⟩
                    rw [Fence.inRound_round, Oper.semAt_some l' _ _ (by intro c hc; cases hc)]
                    go_simp
                    refine hK _ _ ?_
                    clear hK K
                    try simp only [Act.put, List.setIfInBounds_toArray, List.set_cons_zero, List.set_cons_succ]
                    refine wpAnyIn_done (by kernel_rfl) ?_ _
                    gi_wp2
                    exact FIN.out w3 hM3 hKS
                  exact AllReadyIn.nil
                exact AllReadyIn.nil
              exact AllReadyIn.nil
            exact AllReadyIn.nil
          refine AllReadyIn.cons (o := _) rfl (fun K hK => ?_) ?_
          · rw [if_pos (by rfl)]
            refine ⟨fun _ _ => trivial, ?_⟩
            rw [Fence.inRound_round, Oper.semAt_some l' _ _ (by intro c hc; cases hc)]
            go_simp
            refine hK _ _ ?_
            clear hK K
            try simp only [Act.put, List.setIfInBounds_toArray, List.set_cons_zero, List.set_cons_succ]
            refine wpAnyIn_ready (rs := [3]) (by kernel_rfl) (by simp) ?_
            refine AllReadyIn.cons (o := _) rfl (fun K hK => ?_) ?_
            · rw [if_pos (by rfl)]
              refine ⟨fun _ _ => trivial, ?_⟩
              rw [Fence.inRound_round, Oper.semAt_some l' _ _ (by intro c hc; cases hc)]
              go_simp
              refine hK _ _ ?_
              clear hK K
              try simp only [Act.put, List.setIfInBounds_toArray, List.set_cons_zero, List.set_cons_succ]
              refine wpAnyIn_ready (rs := [4]) (by kernel_rfl) (by simp) ?_
              refine AllReadyIn.cons (o := _) rfl (fun K hK => ?_) ?_
              · rw [if_pos (by rfl)]
                refine ⟨fun _ _ => trivial, ?_⟩
                rw [Fence.inRound_round, Oper.semAt_some l' _ _ (by intro c hc; cases hc)]
                go_simp
                refine hK _ _ ?_
                clear hK K
                try simp only [Act.put, List.setIfInBounds_toArray, List.set_cons_zero, List.set_cons_succ]
                refine wpAnyIn_ready (rs := [6]) (by kernel_rfl) (by simp) ?_
                refine AllReadyIn.cons (o := _) rfl (fun K hK => ?_) ?_
                · rw [if_pos (by rfl)]
                  refine ⟨fun _ _ => trivial, ?_⟩
                  rw [Fence.inRound_round, Oper.semAt_some l' _ _ (by intro c hc; cases hc)]
                  go_simp
                  refine hK _ _ ?_
                  clear hK K
                  try simp only [Act.put, List.setIfInBounds_toArray, List.set_cons_zero, List.set_cons_succ]
                  refine wpAnyIn_ready (rs := [7]) (by kernel_rfl) (by simp) ?_
                  refine AllReadyIn.cons (o := _) rfl (fun K hK => ?_) ?_
                  · rw [if_pos (by rfl)]
                    refine ⟨fun _ _ => trivial, ?_⟩
                    rw [Fence.inRound_round, Oper.semAt_some l' _ _ (by intro c hc; cases hc)]
                    go_simp
                    refine hK _ _ ?_
                    clear hK K
                    try simp only [Act.put, List.setIfInBounds_toArray, List.set_cons_zero, List.set_cons_succ]
                    refine wpAnyIn_ready (rs := [8]) (by kernel_rfl) (by simp) ?_
                    refine AllReadyIn.cons (o := _) rfl (fun K hK => ?_) AllReadyIn.nil
                    rw [if_pos (by rfl)]
                    refine ⟨fun _ _ => trivial, ?_⟩
                    rw [Fence.inRound_round, Oper.semAt_some l' _ _ (by intro c hc; cases hc)]
                    go_simp
                    refine ⟨rfl, HRR.out.mono ?_⟩
                    rintro e w3 ⟨rfl, hM3, hKS⟩
                    dsimp only
                    refine hK _ _ ?_
                    clear hK K
                    try simp only [Act.put, List.setIfInBounds_toArray, List.set_cons_zero, List.set_cons_succ]
                    refine wpAnyIn_ready (rs := [9]) (by kernel_rfl) (by simp) ?_
                    refine AllReadyIn.cons (o := _) rfl (fun K hK => ?_) AllReadyIn.nil
                    rw [if_pos (by rfl)]
                    refine ⟨fun _ _ => trivial, ?_⟩
                    rw [Fence.inRound_round, Oper.semAt_some l' _ _ (by intro c hc; cases hc)]
                    go_simp
                    refine hK _ _ ?_
                    clear hK K
                    try simp only [Act.put, List.setIfInBounds_toArray, List.set_cons_zero, List.set_cons_succ]
                    refine wpAnyIn_done (by kernel_rfl) ?_ _
                    gi_wp2
                    exact FIN.out w3 hM3 hKS
                  exact AllReadyIn.nil
                exact AllReadyIn.nil
              exact AllReadyIn.nil
            exact AllReadyIn.nil
          exact AllReadyIn.nil
        refine AllReadyIn.cons (o := _) rfl (fun K hK => ?_) ?_
        · rw [if_pos (by rfl)]
          refine ⟨fun _ _ => trivial, ?_⟩
          rw [Fence.inRound_round, Oper.semAt_some l' _ _ (by intro c hc; cases hc)]
          go_simp
          refine hK _ _ ?_
          clear hK K
          try simp only [Act.put, List.setIfInBounds_toArray, List.set_cons_zero, List.set_cons_succ]
          refine wpAnyIn_ready (rs := [0, 4, 5]) (by kernel_rfl) (by simp) ?_
          refine AllReadyIn.cons (o := _) rfl (fun K hK => ?_) ?_
          · rw [if_pos (by rfl)]
            refine ⟨fun _ _ => trivial, ?_⟩
            rw [Fence.inRound_round, Oper.semAt_some l' _ _ (by intro c hc; cases hc)]
            go_simp
            refine hK _ _ ?_
            clear hK K
            try simp only [Act.put, List.setIfInBounds_toArray, List.set_cons_zero, List.set_cons_succ]
            refine wpAnyIn_ready (rs := [4, 5]) (by kernel_rfl) (by simp) ?_
            refine AllReadyIn.cons (o := _) rfl (fun K hK => ?_) ?_
            · rw [if_pos (by rfl)]
              refine ⟨fun _ _ => trivial, ?_⟩
              rw [Fence.inRound_round, Oper.semAt_some l' _ _ (by intro c hc; cases hc)]
              go_simp
              refine hK _ _ ?_
              clear hK K
              try simp only [Act.put, List.setIfInBounds_toArray, List.set_cons_zero, List.set_cons_succ]
              refine wpAnyIn_ready (rs := [5]) (by kernel_rfl) (by simp) ?_
              refine AllReadyIn.cons (o := _) rfl (fun K hK => ?_) ?_
              · rw [if_pos (by rfl)]
                refine ⟨fun _ _ => trivial, ?_⟩
                rw [Fence.inRound_round, Oper.semAt_some l' _ _ (by intro c hc; cases hc)]
                go_simp
                refine hK _ _ ?_
                clear hK K
                try simp only [Act.put, List.setIfInBounds_toArray, List.set_cons_zero, List.set_cons_succ]
                refine wpAnyIn_ready (rs := [6]) (by kernel_rfl) (by simp) ?_
                refine AllReadyIn.cons (o := _) rfl (fun K hK => ?_) ?_
                · rw [if_pos (by rfl)]
                  refine ⟨fun _ _ => trivial, ?_⟩
                  rw [Fence.inRound_round, Oper.semAt_some l' _ _ (by intro c hc; cases hc)]
                  go_simp
                  refine hK _ _ ?_
                  clear hK K
                  try simp only [Act.put, List.setIfInBounds_toArray, List.set_cons_zero, List.set_cons_succ]
                  refine wpAnyIn_ready (rs := [7]) (by kernel_rfl) (by simp) ?_
                  refine AllReadyIn.cons (o := _) rfl (fun K hK => ?_) ?_
                  · rw [if_pos (by rfl)]
                    refine ⟨fun _ _ => trivial, ?_⟩
                    rw [Fence.inRound_round, Oper.semAt_some l' _ _ (by intro c hc; cases hc)]
                    go_simp
                    refine hK _ _ ?_
                    clear hK K
                    try simp only [Act.put, List.setIfInBounds_toArray, List.set_cons_zero, List.set_cons_succ]
                    refine wpAnyIn_ready (rs := [8]) (by kernel_rfl) (by simp) ?_
                    refine AllReadyIn.cons (o := _) rfl (fun K hK => ?_) AllReadyIn.nil
                    rw [if_pos (by rfl)]
                    refine ⟨fun _ _ => trivial, ?_⟩
                    rw [Fence.inRound_round, Oper.semAt_some l' _ _ (by intro c hc; cases hc)]
                    go_simp
                    refine ⟨rfl, HRR.out.mono ?_⟩
                    rintro e w3 ⟨rfl, hM3, hKS⟩
                    dsimp only
                    refine hK _ _ ?_
                    clear hK K
                    try simp only [Act.put, List.setIfInBounds_toArray, List.set_cons_zero, List.set_cons_succ]
                    refine wpAnyIn_ready (rs := [9]) (by kernel_rfl) (by simp) ?_
                    refine AllReadyIn.cons (o := _) rfl (fun K hK => ?_) AllReadyIn.nil
                    rw [if_pos (by rfl)]
                    refine ⟨fun _ _ => trivial, ?_⟩
                    rw [Fence.inRound_round, Oper.semAt_some l' _ _ (by intro c hc; cases hc)]
                    go_simp
                    refine hK _ _ ?_
                    clear hK K
                    try simp only [Act.put, List.setIfInBounds_toArray, List.set_cons_zero, List.set_cons_succ]
                    refine wpAnyIn_done (by kernel_rfl) ?_ _
                    gi_wp2
                    exact FIN.out w3 hM3 hKS
                  exact AllReadyIn.nil
                exact AllReadyIn.nil
              exact AllReadyIn.nil
            refine AllReadyIn.cons (o := _) rfl (fun K hK => ?_) ?_
            · rw [if_pos (by rfl)]
              refine ⟨fun _ _ => trivial, ?_⟩
              rw [Fence.inRound_round, Oper.semAt_some l' _ _ (by intro c hc; cases hc)]
              go_simp
              refine hK _ _ ?_
              clear hK K
              try simp only [Act.put, List.setIfInBounds_toArray, List.set_cons_zero, List.set_cons_succ]
              refine wpAnyIn_ready (rs := [4]) (by kernel_rfl) (by simp) ?_
              refine AllReadyIn.cons (o := _) rfl (fun K hK => ?_) ?_
              · rw [if_pos (by rfl)]
                refine ⟨fun _ _ => trivial, ?_⟩
                rw [Fence.inRound_round, Oper.semAt_some l' _ _ (by intro c hc; cases hc)]
                go_simp
                refine hK _ _ ?_
                clear hK K
                try simp only [Act.put, List.setIfInBounds_toArray, List.set_cons_zero, List.set_cons_succ]
                refine wpAnyIn_ready (rs := [6]) (by kernel_rfl) (by simp) ?_
                refine AllReadyIn.cons (o := _) rfl (fun K hK => ?_) ?_
                · rw [if_pos (by rfl)]
                  refine ⟨fun _ _ => trivial, ?_⟩
                  rw [Fence.inRound_round, Oper.semAt_some l' _ _ (by intro c hc; cases hc)]
                  go_simp
                  refine hK _ _ ?_
                  clear hK K
                  try simp only [Act.put, List.setIfInBounds_toArray, List.set_cons_zero, List.set_cons_succ]
                  refine wpAnyIn_ready (rs := [7]) (by kernel_rfl) (by simp) ?_
                  refine AllReadyIn.cons (o := _) rfl (fun K hK => ?_) ?_
                  · rw [if_pos (by rfl)]
                    refine ⟨fun _ _ => trivial, ?_⟩
                    rw [Fence.inRound_round, Oper.semAt_some l' _ _ (by intro c hc; cases hc)]
                    go_simp
                    refine hK _ _ ?_
                    clear hK K
                    try simp only [Act.put, List.setIfInBounds_toArray, List.set_cons_zero, List.set_cons_succ]
                    refine wpAnyIn_ready (rs := [8]) (by kernel_rfl) (by simp) ?_
                    refine AllReadyIn.cons (o := _) rfl (fun K hK => ?_) AllReadyIn.nil
                    rw [if_pos (by rfl)]
                    refine ⟨fun _ _ => trivial, ?_⟩
                    rw [Fence.inRound_round, Oper.semAt_some l' _ _ (by intro c hc; cases hc)]
                    go_simp
                    refine ⟨rfl, HRR.out.mono ?_⟩
                    rintro e w3 ⟨rfl, hM3, hKS⟩
                    dsimp only
                    refine hK _ _ ?_
                    clear hK K
                    try simp only [Act.put, List.setIfInBounds_toArray, List.set_cons_zero, List.set_cons_succ]
                    refine wpAnyIn_ready (rs := [9]) (by kernel_rfl) (by simp) ?_
                    refine AllReadyIn.cons (o := _) rfl (fun K hK => ?_) AllReadyIn.nil
                    rw [if_pos (by rfl)]
                    refine ⟨fun _ _ => trivial, ?_⟩
                    rw [Fence.inRound_round, Oper.semAt_some l' _ _ (by intro c hc; cases hc)]
                    go_simp
                    refine hK _ _ ?_
                    clear hK K
                    try simp only [Act.put, List.setIfInBounds_toArray, List.set_cons_zero, List.set_cons_succ]
                    refine wpAnyIn_done (by kernel_rfl) ?_ _
                    gi_wp2
                    exact FIN.out w3 hM3 hKS
                  exact AllReadyIn.nil
                exact AllReadyIn.nil
              exact AllReadyIn.nil
            exact AllReadyIn.nil
          refine AllReadyIn.cons (o := _) rfl (fun K hK => ?_) ?_
          · rw [if_pos (by rfl)]
            refine ⟨fun _ _ => trivial, ?_⟩
            rw [Fence.inRound_round, Oper.semAt_some l' _ _ (by intro c hc; cases hc)]
            go_simp
            refine hK _ _ ?_
            clear hK K
            try simp only [Act.put, List.setIfInBounds_toArray, List.set_cons_zero, List.set_cons_succ]
            refine wpAnyIn_ready (rs := [0, 5]) (by kernel_rfl) (by simp) ?_
            refine AllReadyIn.cons (o := _) rfl (fun K hK => ?_) ?_
            · rw [if_pos (by rfl)]
              refine ⟨fun _ _ => trivial, ?_⟩
              rw [Fence.inRound_round, Oper.semAt_some l' _ _ (by intro c hc; cases hc)]
              go_simp
              refine hK _ _ ?_
              clear hK K
              try simp only [Act.put, List.setIfInBounds_toArray, List.set_cons_zero, List.set_cons_succ]
              refine wpAnyIn_ready (rs := [5]) (by kernel_rfl) (by simp) ?_
              refine AllReadyIn.cons (o := _) rfl (fun K hK => ?_) ?_
              · rw [if_pos (by rfl)]
                refine ⟨fun _ _ => trivial, ?_⟩
                rw [Fence.inRound_round, Oper.semAt_some l' _ _ (by intro c hc; cases hc)]
                go_simp
                refine hK _ _ ?_
                clear hK K
                try simp only [Act.put, List.setIfInBounds_toArray, List.set_cons_zero, List.set_cons_succ]
                refine wpAnyIn_ready (rs := [6]) (by kernel_rfl) (by simp) ?_
                refine AllReadyIn.cons (o := _) rfl (fun K hK => ?_) ?_
                · rw [if_pos (by rfl)]
                  refine ⟨fun _ _ => trivial, ?_⟩
                  rw [Fence.inRound_round, Oper.semAt_some l' _ _ (by intro c hc; cases hc)]
                  go_simp
                  refine hK _ _ ?_
                  clear hK K
                  try simp only [Act.put, List.setIfInBounds_toArray, List.set_cons_zero, List.set_cons_succ]
                  refine wpAnyIn_ready (rs := [7]) (by kernel_rfl) (by simp) ?_
                  refine AllReadyIn.cons (o := _) rfl (fun K hK => ?_) ?_
                  · rw [if_pos (by rfl)]
                    refine ⟨fun _ _ => trivial, ?_⟩
                    rw [Fence.inRound_round, Oper.semAt_some l' _ _ (by intro c hc; cases hc)]
                    go_simp
                    refine hK _ _ ?_
                    clear hK K
                    try simp only [Act.put, List.setIfInBounds_toArray, List.set_cons_zero, List.set_cons_succ]
                    refine wpAnyIn_ready (rs := [8]) (by kernel_rfl) (by simp) ?_
                    refine AllReadyIn.cons (o := _) rfl (fun K hK => ?_) AllReadyIn.nil
                    rw [if_pos (by rfl)]
                    refine ⟨fun _ _ => trivial, ?_⟩
                    rw [Fence.inRound_round, Oper.semAt_some l' _ _ (by intro c hc; cases hc)]
                    go_simp
                    refine ⟨rfl, HRR.out.mono ?_⟩
                    rintro e w3 ⟨rfl, hM3, hKS⟩
                    dsimp only
                    refine hK _ _ ?_
                    clear hK K
                    try simp only [Act.put, List.setIfInBounds_toArray, List.set_cons_zero, List.set_cons_succ]
                    refine wpAnyIn_ready (rs := [9]) (by kernel_rfl) (by simp) ?_
                    refine AllReadyIn.cons (o := _) rfl (fun K hK => ?_) AllReadyIn.nil
                    rw [if_pos (by rfl)]
                    refine ⟨fun _ _ => trivial, ?_⟩
                    rw [Fence.inRound_round, Oper.semAt_some l' _ _ (by intro c hc; cases hc)]
                    go_simp
                    refine hK _ _ ?_
                    clear hK K
                    try simp only [Act.put, List.setIfInBounds_toArray, List.set_cons_zero, List.set_cons_succ]
                    refine wpAnyIn_done (by kernel_rfl) ?_ _
                    gi_wp2
                    exact FIN.out w3 hM3 hKS
                  exact AllReadyIn.nil
                exact AllReadyIn.nil
              exact AllReadyIn.nil
            refine AllReadyIn.cons (o := _) rfl (fun K hK => ?_) ?_
            · rw [if_pos (by rfl)]
              refine ⟨fun _ _ => trivial, ?_⟩
              rw [Fence.inRound_round, Oper.semAt_some l' _ _ (by intro c hc; cases hc)]
              go_simp
              refine hK _ _ ?_
              clear hK K
              try simp only [Act.put, List.setIfInBounds_toArray, List.set_cons_zero, List.set_cons_succ]
              refine wpAnyIn_ready (rs := [0, 6]) (by kernel_rfl) (by simp) ?_
              refine AllReadyIn.cons (o := _) rfl (fun K hK => ?_) ?_
              · rw [if_pos (by rfl)]
                refine ⟨fun _ _ => trivial, ?_⟩
                rw [Fence.inRound_round, Oper.semAt_some l' _ _ (by intro c hc; cases hc)]
                go_simp
                refine hK _ _ ?_
                clear hK K
                try simp only [Act.put, List.setIfInBounds_toArray, List.set_cons_zero, List.set_cons_succ]
                refine wpAnyIn_ready (rs := [6]) (by kernel_rfl) (by simp) ?_
                refine AllReadyIn.cons (o := _) rfl (fun K hK => ?_) ?_
                · rw [if_pos (by rfl)]
                  refine ⟨fun _ _ => trivial, ?_⟩
                  rw [Fence.inRound_round, Oper.semAt_some l' _ _ (by intro c hc; cases hc)]
                  go_simp
                  refine hK _ _ ?_
                  clear hK K
                  try simp only [Act.put, List.setIfInBounds_toArray, List.set_cons_zero, List.set_cons_succ]
                  refine wpAnyIn_ready (rs := [7]) (by kernel_rfl) (by simp) ?_
                  refine AllReadyIn.cons (o := _) rfl (fun K hK => ?_) ?_
                  · rw [if_pos (by rfl)]
                    refine ⟨fun _ _ => trivial, ?_⟩
                    rw [Fence.inRound_round, Oper.semAt_some l' _ _ (by intro c hc; cases hc)]
                    go_simp
                    refine hK _ _ ?_
                    clear hK K
                    try simp only [Act.put, List.setIfInBounds_toArray, List.set_cons_zero, List.set_cons_succ]
                    refine wpAnyIn_ready (rs := [8]) (by kernel_rfl) (by simp) ?_
                    refine AllReadyIn.cons (o := _) rfl (fun K hK => ?_) AllReadyIn.nil
                    rw [if_pos (by rfl)]
                    refine ⟨fun _ _ => trivial, ?_⟩
                    rw [Fence.inRound_round, Oper.semAt_some l' _ _ (by intro c hc; cases hc)]
                    go_simp
                    refine ⟨rfl, HRR.out.mono ?_⟩
                    rintro e w3 ⟨rfl, hM3, hKS⟩
                    dsimp only
                    refine hK _ _ ?_
                    clear hK K
                    try simp only [Act.put, List.setIfInBounds_toArray, List.set_cons_zero, List.set_cons_succ]
                    refine wpAnyIn_ready (rs := [9]) (by kernel_rfl) (by simp) ?_
                    refine AllReadyIn.cons (o := _) rfl (fun K hK => ?_) AllReadyIn.nil
                    rw [if_pos (by rfl)]
                    refine ⟨fun _ _ => trivial, ?_⟩
                    rw [Fence.inRound_round, Oper.semAt_some l' _ _ (by intro c hc; cases hc)]
                    go_simp
                    refine hK _ _ ?_
                    clear hK K
                    try simp only [Act.put, List.setIfInBounds_toArray, List.set_cons_zero, List.set_cons_succ]
                    refine wpAnyIn_done (by kernel_rfl) ?_ _
                    gi_wp2
                    exact FIN.out w3 hM3 hKS
                  exact AllReadyIn.nil
                exact AllReadyIn.nil
              refine AllReadyIn.cons (o := _) rfl (fun K hK => ?_) ?_
              · rw [if_pos (by rfl)]
                refine ⟨fun _ _ => trivial, ?_⟩
                rw [Fence.inRound_round, Oper.semAt_some l' _ _ (by intro c hc; cases hc)]
                go_simp
                refine hK _ _ ?_
                clear hK K
                try simp only [Act.put, List.setIfInBounds_toArray, List.set_cons_zero, List.set_cons_succ]
                refine wpAnyIn_ready (rs := [0, 7]) (by kernel_rfl) (by simp) ?_
                refine AllReadyIn.cons (o := _) rfl (fun K hK => ?_) ?_
                · rw [if_pos (by rfl)]
                  refine ⟨fun _ _ => trivial, ?_⟩
                  rw [Fence.inRound_round, Oper.semAt_some l' _ _ (by intro c hc; cases hc)]
                  go_simp
                  refine hK _ _ ?_
                  clear hK K
                  try simp only [Act.put, List.setIfInBounds_toArray, List.set_cons_zero, List.set_cons_succ]
                  refine wpAnyIn_ready (rs := [7]) (by kernel_rfl) (by simp) ?_
                  refine AllReadyIn.cons (o := _) rfl (fun K hK => ?_) ?_
                  · rw [if_pos (by rfl)]
                    refine ⟨fun _ _ => trivial, ?_⟩
                    rw [Fence.inRound_round, Oper.semAt_some l' _ _ (by intro c hc; cases hc)]
                    go_simp
                    refine hK _ _ ?_
                    clear hK K
                    try simp only [Act.put, List.setIfInBounds_toArray, List.set_cons_zero, List.set_cons_succ]
                    refine wpAnyIn_ready (rs := [8]) (by kernel_rfl) (by simp) ?_
                    refine AllReadyIn.cons (o := _) rfl (fun K hK => ?_) AllReadyIn.nil
                    rw [if_pos (by rfl)]
                    refine ⟨fun _ _ => trivial, ?_⟩
                    rw [Fence.inRound_round, Oper.semAt_some l' _ _ (by intro c hc; cases hc)]
                    go_simp
                    refine ⟨rfl, HRR.out.mono ?_⟩
                    rintro e w3 ⟨rfl, hM3, hKS⟩
                    dsimp only
                    refine hK _ _ ?_
                    clear hK K
                    try simp only [Act.put, List.setIfInBounds_toArray, List.set_cons_zero, List.set_cons_succ]
                    refine wpAnyIn_ready (rs := [9]) (by kernel_rfl) (by simp) ?_
                    refine AllReadyIn.cons (o := _) rfl (fun K hK => ?_) AllReadyIn.nil
                    rw [if_pos (by rfl)]
                    refine ⟨fun _ _ => trivial, ?_⟩
                    rw [Fence.inRound_round, Oper.semAt_some l' _ _ (by intro c hc; cases hc)]
                    go_simp
                    refine hK _ _ ?_
                    clear hK K
                    try simp only [Act.put, List.setIfInBounds_toArray, List.set_cons_zero, List.set_cons_succ]
                    refine wpAnyIn_done (by kernel_rfl) ?_ _
                    gi_wp2
                    exact FIN.out w3 hM3 hKS
                  exact AllReadyIn.nil
                refine AllReadyIn.cons (o := _) rfl (fun K hK => ?_) ?_
                · rw [if_pos (by rfl)]
                  refine ⟨fun _ _ => trivial, ?_⟩
                  rw [Fence.inRound_round, Oper.semAt_some l' _ _ (by intro c hc; cases hc)]
                  go_simp
                  refine hK _ _ ?_
                  clear hK K
                  try simp only [Act.put, List.setIfInBounds_toArray, List.set_cons_zero, List.set_cons_succ]
                  refine wpAnyIn_ready (rs := [0]) (by kernel_rfl) (by simp) ?_
                  refine AllReadyIn.cons (o := _) rfl (fun K hK => ?_) ?_
                  · rw [if_pos (by rfl)]
                    refine ⟨fun _ _ => trivial, ?_⟩
                    rw [Fence.inRound_round, Oper.semAt_some l' _ _ (by intro c hc; cases hc)]
                    go_simp
                    refine hK _ _ ?_
                    clear hK K
                    try simp only [Act.put, List.setIfInBounds_toArray, List.set_cons_zero, List.set_cons_succ]
                    refine wpAnyIn_ready (rs := [8]) (by kernel_rfl) (by simp) ?_
                    refine AllReadyIn.cons (o := _) rfl (fun K hK => ?_) AllReadyIn.nil
                    rw [if_pos (by rfl)]
                    refine ⟨fun _ _ => trivial, ?_⟩
                    rw [Fence.inRound_round, Oper.semAt_some l' _ _ (by intro c hc; cases hc)]
                    go_simp
                    refine ⟨rfl, HRR.out.mono ?_⟩
                    rintro e w3 ⟨rfl, hM3, hKS⟩
                    dsimp only
                    refine hK _ _ ?_
                    clear hK K
                    try simp only [Act.put, List.setIfInBounds_toArray, List.set_cons_zero, List.set_cons_succ]
                    refine wpAnyIn_ready (rs := [9]) (by kernel_rfl) (by simp) ?_
                    refine AllReadyIn.cons (o := _) rfl (fun K hK => ?_) AllReadyIn.nil
                    rw [if_pos (by rfl)]
                    refine ⟨fun _ _ => trivial, ?_⟩
                    rw [Fence.inRound_round, Oper.semAt_some l' _ _ (by intro c hc; cases hc)]
                    go_simp
                    refine hK _ _ ?_
                    clear hK K
                    try simp only [Act.put, List.setIfInBounds_toArray, List.set_cons_zero, List.set_cons_succ]
                    refine wpAnyIn_done (by kernel_rfl) ?_ _
                    gi_wp2
                    exact FIN.out w3 hM3 hKS
                  exact AllReadyIn.nil
                exact AllReadyIn.nil
              exact AllReadyIn.nil
            exact AllReadyIn.nil
          refine AllReadyIn.cons (o := _) rfl (fun K hK => ?_) ?_
          · rw [if_pos (by rfl)]
            refine ⟨fun _ _ => trivial, ?_⟩
            rw [Fence.inRound_round, Oper.semAt_some l' _ _ (by intro c hc; cases hc)]
            go_simp
            refine hK _ _ ?_
            clear hK K
            try simp only [Act.put, List.setIfInBounds_toArray, List.set_cons_zero, List.set_cons_succ]
            refine wpAnyIn_ready (rs := [0, 4]) (by kernel_rfl) (by simp) ?_
            refine AllReadyIn.cons (o := _) rfl (fun K hK => ?_) ?_
            · rw [if_pos (by rfl)]
              refine ⟨fun _ _ => trivial, ?_⟩
              rw [Fence.inRound_round, Oper.semAt_some l' _ _ (by intro c hc; cases hc)]
              go_simp
              refine hK _ _ ?_
              clear hK K
              try simp only [Act.put, List.setIfInBounds_toArray, List.set_cons_zero, List.set_cons_succ]
              refine wpAnyIn_ready (rs := [4]) (by kernel_rfl) (by simp) ?_
              refine AllReadyIn.cons (o := _) rfl (fun K hK => ?_) ?_
              · rw [if_pos (by rfl)]
                refine ⟨fun _ _ => trivial, ?_⟩
                rw [Fence.inRound_round, Oper.semAt_some l' _ _ (by intro c hc; cases hc)]
                go_simp
                refine hK _ _ ?_
                clear hK K
                try simp only [Act.put, List.setIfInBounds_toArray, List.set_cons_zero, List.set_cons_succ]
                refine wpAnyIn_ready (rs := [6]) (by kernel_rfl) (by simp) ?_
                refine AllReadyIn.cons (o := _) rfl (fun K hK => ?_) ?_
                · rw [if_pos (by rfl)]
                  refine ⟨fun _ _ => trivial, ?_⟩
                  rw [Fence.inRound_round, Oper.semAt_some l' _ _ (by intro c hc; cases hc)]
                  go_simp
                  refine hK _ _ ?_
                  clear hK K
                  try simp only [Act.put, List.setIfInBounds_toArray, List.set_cons_zero, List.set_cons_succ]
                  refine wpAnyIn_ready (rs := [7]) (by kernel_rfl) (by simp) ?_
                  refine AllReadyIn.cons (o := _) rfl (fun K hK => ?_) ?_
                  · rw [if_pos (by rfl)]
                    refine ⟨fun _ _ => trivial, ?_⟩
                    rw [Fence.inRound_round, Oper.semAt_some l' _ _ (by intro c hc; cases hc)]
                    go_simp
                    refine hK _ _ ?_
                    clear hK K
                    try simp only [Act.put, List.setIfInBounds_toArray, List.set_cons_zero, List.set_cons_succ]
                    refine wpAnyIn_ready (rs := [8]) (by kernel_rfl) (by simp) ?_
                    refine AllReadyIn.cons (o := _) rfl (fun K hK => ?_) AllReadyIn.nil
                    rw [if_pos (by rfl)]
                    refine ⟨fun _ _ => trivial, ?_⟩
                    rw [Fence.inRound_round, Oper.semAt_some l' _ _ (by intro c hc; cases hc)]
                    go_simp
                    refine ⟨rfl, HRR.out.mono ?_⟩
                    rintro e w3 ⟨rfl, hM3, hKS⟩
                    dsimp only
                    refine hK _ _ ?_
                    clear hK K
                    try simp only [Act.put, List.setIfInBounds_toArray, List.set_cons_zero, List.set_cons_succ]
                    refine wpAnyIn_ready (rs := [9]) (by kernel_rfl) (by simp) ?_
                    refine AllReadyIn.cons (o := _) rfl (fun K hK => ?_) AllReadyIn.nil
                    rw [if_pos (by rfl)]
                    refine ⟨fun _ _ => trivial, ?_⟩
                    rw [Fence.inRound_round, Oper.semAt_some l' _ _ (by intro c hc; cases hc)]
                    go_simp
                    refine hK _ _ ?_
                    clear hK K
                    try simp only [Act.put, List.setIfInBounds_toArray, List.set_cons_zero, List.set_cons_succ]
                    refine wpAnyIn_done (by kernel_rfl) ?_ _
                    gi_wp2
                    exact FIN.out w3 hM3 hKS
                  exact AllReadyIn.nil
                exact AllReadyIn.nil
              exact AllReadyIn.nil
            refine AllReadyIn.cons (o := _) rfl (fun K hK => ?_) ?_
            · rw [if_pos (by rfl)]
              refine ⟨fun _ _ => trivial, ?_⟩
              rw [Fence.inRound_round, Oper.semAt_some l' _ _ (by intro c hc; cases hc)]
              go_simp
              refine hK _ _ ?_
              clear hK K
              try simp only [Act.put, List.setIfInBounds_toArray, List.set_cons_zero, List.set_cons_succ]
              refine wpAnyIn_ready (rs := [0, 6]) (by kernel_rfl) (by simp) ?_
              refine AllReadyIn.cons (o := _) rfl (fun K hK => ?_) ?_
              · rw [if_pos (by rfl)]
                refine ⟨fun _ _ => trivial, ?_⟩
                rw [Fence.inRound_round, Oper.semAt_some l' _ _ (by intro c hc; cases hc)]
                go_simp
                refine hK _ _ ?_
                clear hK K
                try simp only [Act.put, List.setIfInBounds_toArray, List.set_cons_zero, List.set_cons_succ]
                refine wpAnyIn_ready (rs := [6]) (by kernel_rfl) (by simp) ?_
                refine AllReadyIn.cons (o := _) rfl (fun K hK => ?_) ?_
                · rw [if_pos (by rfl)]
                  refine ⟨fun _ _ => trivial, ?_⟩
                  rw [Fence.inRound_round, Oper.semAt_some l' _ _ (by intro c hc; cases hc)]
                  go_simp
                  refine hK _ _ ?_
                  clear hK K
                  try simp only [Act.put, List.setIfInBounds_toArray, List.set_cons_zero, List.set_cons_succ]
                  refine wpAnyIn_ready (rs := [7]) (by kernel_rfl) (by simp) ?_
                  refine AllReadyIn.cons (o := _) rfl (fun K hK => ?_) ?_
                  · rw [if_pos (by rfl)]
                    refine ⟨fun _ _ => trivial, ?_⟩
                    rw [Fence.inRound_round, Oper.semAt_some l' _ _ (by intro c hc; cases hc)]
                    go_simp
                    refine hK _ _ ?_
                    clear hK K
                    try simp only [Act.put, List.setIfInBounds_toArray, List.set_cons_zero, List.set_cons_succ]
                    refine wpAnyIn_ready (rs := [8]) (by kernel_rfl) (by simp) ?_
                    refine AllReadyIn.cons (o := _) rfl (fun K hK => ?_) AllReadyIn.nil
                    rw [if_pos (by rfl)]
                    refine ⟨fun _ _ => trivial, ?_⟩
                    rw [Fence.inRound_round, Oper.semAt_some l' _ _ (by intro c hc; cases hc)]
                    go_simp
                    refine ⟨rfl, HRR.out.mono ?_⟩
                    rintro e w3 ⟨rfl, hM3, hKS⟩
                    dsimp only
                    refine hK _ _ ?_
                    clear hK K
                    try simp only [Act.put, List.setIfInBounds_toArray, List.set_cons_zero, List.set_cons_succ]
                    refine wpAnyIn_ready (rs := [9]) (by kernel_rfl) (by simp) ?_
                    refine AllReadyIn.cons (o := _) rfl (fun K hK => ?_) AllReadyIn.nil
                    rw [if_pos (by rfl)]
                    refine ⟨fun _ _ => trivial, ?_⟩
                    rw [Fence.inRound_round, Oper.semAt_some l' _ _ (by intro c hc; cases hc)]
                    go_simp
                    refine hK _ _ ?_
                    clear hK K
                    try simp only [Act.put, List.setIfInBounds_toArray, List.set_cons_zero, List.set_cons_succ]
                    refine wpAnyIn_done (by kernel_rfl) ?_ _
                    gi_wp2
                    exact FIN.out w3 hM3 hKS
                  exact AllReadyIn.nil
                exact AllReadyIn.nil
              refine AllReadyIn.cons (o := _) rfl (fun K hK => ?_) ?_
              · rw [if_pos (by rfl)]
                refine ⟨fun _ _ => trivial, ?_⟩
                rw [Fence.inRound_round, Oper.semAt_some l' _ _ (by intro c hc; cases hc)]
                go_simp
                refine hK _ _ ?_
                clear hK K
                try simp only [Act.put, List.setIfInBounds_toArray, List.set_cons_zero, List.set_cons_succ]
                refine wpAnyIn_ready (rs := [0, 7]) (by kernel_rfl) (by simp) ?_
                refine AllReadyIn.cons (o := _) rfl (fun K hK => ?_) ?_
                · rw [if_pos (by rfl)]
                  refine ⟨fun _ _ => trivial, ?_⟩
                  rw [Fence.inRound_round, Oper.semAt_some l' _ _ (by intro c hc; cases hc)]
                  go_simp
                  refine hK _ _ ?_
                  clear hK K
                  try simp only [Act.put, List.setIfInBounds_toArray, List.set_cons_zero, List.set_cons_succ]
                  refine wpAnyIn_ready (rs := [7]) (by kernel_rfl) (by simp) ?_
                  refine AllReadyIn.cons (o := _) rfl (fun K hK => ?_) ?_
                  · rw [if_pos (by rfl)]
                    refine ⟨fun _ _ => trivial, ?_⟩
                    rw [Fence.inRound_round, Oper.semAt_some l' _ _ (by intro c hc; cases hc)]
                    go_simp
                    refine hK _ _ ?_
                    clear hK K
                    try simp only [Act.put, List.setIfInBounds_toArray, List.set_cons_zero, List.set_cons_succ]
                    refine wpAnyIn_ready (rs := [8]) (by kernel_rfl) (by simp) ?_
                    refine AllReadyIn.cons (o := _) rfl (fun K hK => ?_) AllReadyIn.nil
                    rw [if_pos (by rfl)]
                    refine ⟨fun _ _ => trivial, ?_⟩
                    rw [Fence.inRound_round, Oper.semAt_some l' _ _ (by intro c hc; cases hc)]
                    go_simp
                    refine ⟨rfl, HRR.out.mono ?_⟩
                    rintro e w3 ⟨rfl, hM3, hKS⟩
                    dsimp only
                    refine hK _ _ ?_
                    clear hK K
                    try simp only [Act.put, List.setIfInBounds_toArray, List.set_cons_zero, List.set_cons_succ]
                    refine wpAnyIn_ready (rs := [9]) (by kernel_rfl) (by simp) ?_
                    refine AllReadyIn.cons (o := _) rfl (fun K hK => ?_) AllReadyIn.nil
                    rw [if_pos (by rfl)]
                    refine ⟨fun _ _ => trivial, ?_⟩
                    rw [Fence.inRound_round, Oper.semAt_some l' _ _ (by intro c hc; cases hc)]
                    go_simp
                    refine hK _ _ ?_
                    clear hK K
                    try simp only [Act.put, List.setIfInBounds_toArray, List.set_cons_zero, List.set_cons_succ]
                    refine wpAnyIn_done (by kernel_rfl) ?_ _
                    gi_wp2
                    exact FIN.out w3 hM3 hKS
                  exact AllReadyIn.nil
                refine AllReadyIn.cons (o := _) rfl (fun K hK => ?_) ?_
                · rw [if_pos (by rfl)]
                  refine ⟨fun _ _ => trivial, ?_⟩
                  rw [Fence.inRound_round, Oper.semAt_some l' _ _ (by intro c hc; cases hc)]
                  go_simp
                  refine hK _ _ ?_
                  clear hK K
                  try simp only [Act.put, List.setIfInBounds_toArray, List.set_cons_zero, List.set_cons_succ]
                  refine wpAnyIn_ready (rs := [0]) (by kernel_rfl) (by simp) ?_
                  refine AllReadyIn.cons (o := _) rfl (fun K hK => ?_) ?_
                  · rw [if_pos (by rfl)]
                    refine ⟨fun _ _ => trivial, ?_⟩
                    rw [Fence.inRound_round, Oper.semAt_some l' _ _ (by intro c hc; cases hc)]
                    go_simp
                    refine hK _ _ ?_
                    clear hK K
                    try simp only [Act.put, List.setIfInBounds_toArray, List.set_cons_zero, List.set_cons_succ]
                    refine wpAnyIn_ready (rs := [8]) (by kernel_rfl) (by simp) ?_
                    refine AllReadyIn.cons (o := _) rfl (fun K hK => ?_) AllReadyIn.nil
                    rw [if_pos (by rfl)]
                    refine ⟨fun _ _ => trivial, ?_⟩
                    rw [Fence.inRound_round, Oper.semAt_some l' _ _ (by intro c hc; cases hc)]
                    go_simp
                    refine ⟨rfl, HRR.out.mono ?_⟩
                    rintro e w3 ⟨rfl, hM3, hKS⟩
                    dsimp only
                    refine hK _ _ ?_
                    clear hK K
                    try simp only [Act.put, List.setIfInBounds_toArray, List.set_cons_zero, List.set_cons_succ]
                    refine wpAnyIn_ready (rs := [9]) (by kernel_rfl) (by simp) ?_
                    refine AllReadyIn.cons (o := _) rfl (fun K hK => ?_) AllReadyIn.nil
                    rw [if_pos (by rfl)]
                    refine ⟨fun _ _ => trivial, ?_⟩
                    rw [Fence.inRound_round, Oper.semAt_some l' _ _ (by intro c hc; cases hc)]
                    go_simp
                    refine hK _ _ ?_
                    clear hK K
                    try simp only [Act.put, List.setIfInBounds_toArray, List.set_cons_zero, List.set_cons_succ]
                    refine wpAnyIn_done (by kernel_rfl) ?_ _
                    gi_wp2
                    exact FIN.out w3 hM3 hKS
                  exact AllReadyIn.nil
                exact AllReadyIn.nil
              exact AllReadyIn.nil
            exact AllReadyIn.nil
          exact AllReadyIn.nil
        refine AllReadyIn.cons (o := _) rfl (fun K hK => ?_) ?_
        · rw [if_pos (by rfl)]
          refine ⟨fun _ _ => trivial, ?_⟩
          rw [Fence.inRound_round, Oper.semAt_some l' _ _ (by intro c hc; cases hc)]
          go_simp
          refine hK _ _ ?_
          clear hK K
          try simp only [Act.put, List.setIfInBounds_toArray, List.set_cons_zero, List.set_cons_succ]
          refine wpAnyIn_ready (rs := [0, 3]) (by kernel_rfl) (by simp) ?_
          refine AllReadyIn.cons (o := _) rfl (fun K hK => ?_) ?_
          · rw [if_pos (by rfl)]
            refine ⟨fun _ _ => trivial, ?_⟩
            rw [Fence.inRound_round, Oper.semAt_some l' _ _ (by intro c hc; cases hc)]
            go_simp
            refine hK _ _ ?_
            clear hK K
            try simp only [Act.put, List.setIfInBounds_toArray, List.set_cons_zero, List.set_cons_succ]
            refine wpAnyIn_ready (rs := [3]) (by kernel_rfl) (by simp) ?_
            refine AllReadyIn.cons (o := _) rfl (fun K hK => ?_) ?_
            · rw [if_pos (by rfl)]
              refine ⟨fun _ _ => trivial, ?_⟩
              rw [Fence.inRound_round, Oper.semAt_some l' _ _ (by intro c hc; cases hc)]
              go_simp
              refine hK _ _ ?_
              clear hK K
              try simp only [Act.put, List.setIfInBounds_toArray, List.set_cons_zero, List.set_cons_succ]
              refine wpAnyIn_ready (rs := [4]) (by kernel_rfl) (by simp) ?_
              refine AllReadyIn.cons (o := _) rfl (fun K hK => ?_) ?_
              · rw [if_pos (by rfl)]
                refine ⟨fun _ _ => trivial, ?_⟩
                rw [Fence.inRound_round, Oper.semAt_some l' _ _ (by intro c hc; cases hc)]
                go_simp
                refine hK _ _ ?_
                clear hK K
                try simp only [Act.put, List.setIfInBounds_toArray, List.set_cons_zero, List.set_cons_succ]
                refine wpAnyIn_ready (rs := [6]) (by kernel_rfl) (by simp) ?_
                refine AllReadyIn.cons (o := _) rfl (fun K hK => ?_) ?_
                · rw [if_pos (by rfl)]
                  refine ⟨fun _ _ => trivial, ?_⟩
                  rw [Fence.inRound_round, Oper.semAt_some l' _ _ (by intro c hc; cases hc)]
                  go_simp
                  refine hK _ _ ?_
                  clear hK K
                  try simp only [Act.put, List.setIfInBounds_toArray, List.set_cons_zero, List.set_cons_succ]
                  refine wpAnyIn_ready (rs := [7]) (by kernel_rfl) (by simp) ?_
                  refine AllReadyIn.cons (o := _) rfl (fun K hK => ?_) ?_
                  · rw [if_pos (by rfl)]
                    refine ⟨fun _ _ => trivial, ?_⟩
                    rw [Fence.inRound_round, Oper.semAt_some l' _ _ (by intro c hc; cases hc)]
                    go_simp
                    refine hK _ _ ?_
                    clear hK K
                    try simp only [Act.put, List.setIfInBounds_toArray, List.set_cons_zero, List.set_cons_succ]
                    refine wpAnyIn_ready (rs := [8]) (by kernel_rfl) (by simp) ?_
                    refine AllReadyIn.cons (o := _) rfl (fun K hK => ?_) AllReadyIn.nil
                    rw [if_pos (by rfl)]
                    refine ⟨fun _ _ => trivial, ?_⟩
                    rw [Fence.inRound_round, Oper.semAt_some l' _ _ (by intro c hc; cases hc)]
                    go_simp
                    refine ⟨rfl, HRR.out.mono ?_⟩
                    rintro e w3 ⟨rfl, hM3, hKS⟩
                    dsimp only
                    refine hK _ _ ?_
                    clear hK K
                    try simp only [Act.put, List.setIfInBounds_toArray, List.set_cons_zero, List.set_cons_succ]
                    refine wpAnyIn_ready (rs := [9]) (by kernel_rfl) (by simp) ?_
                    refine AllReadyIn.cons (o := _) rfl (fun K hK => ?_) AllReadyIn.nil
                    rw [if_pos (by rfl)]
                    refine ⟨fun _ _ => trivial, ?_⟩
                    rw [Fence.inRound_round, Oper.semAt_some l' _ _ (by intro c hc; cases hc)]
                    go_simp
                    refine hK _ _ ?_
                    clear hK K
                    try simp only [Act.put, List.setIfInBounds_toArray, List.set_cons_zero, List.set_cons_succ]
                    refine wpAnyIn_done (by kernel_rfl) ?_ _
                    gi_wp2
                    exact FIN.out w3 hM3 hKS
                  exact AllReadyIn.nil
                exact AllReadyIn.nil
              exact AllReadyIn.nil
            exact AllReadyIn.nil
          refine AllReadyIn.cons (o := _) rfl (fun K hK => ?_) ?_
          · rw [if_pos (by rfl)]
            refine ⟨fun _ _ => trivial, ?_⟩
            rw [Fence.inRound_round, Oper.semAt_some l' _ _ (by intro c hc; cases hc)]
            go_simp
            refine hK _ _ ?_
            clear hK K
            try simp only [Act.put, List.setIfInBounds_toArray, List.set_cons_zero, List.set_cons_succ]
            refine wpAnyIn_ready (rs := [0, 4]) (by kernel_rfl) (by simp) ?_
            refine AllReadyIn.cons (o := _) rfl (fun K hK => ?_) ?_
            · rw [if_pos (by rfl)]
              refine ⟨fun _ _ => trivial, ?_⟩
              rw [Fence.inRound_round, Oper.semAt_some l' _ _ (by intro c hc; cases hc)]
              go_simp
              refine hK _ _ ?_
              clear hK K
              try simp only [Act.put, List.setIfInBounds_toArray, List.set_cons_zero, List.set_cons_succ]
              refine wpAnyIn_ready (rs := [4]) (by kernel_rfl) (by simp) ?_
              refine AllReadyIn.cons (o := _) rfl (fun K hK => ?_) ?_
              · rw [if_pos (by rfl)]
                refine ⟨fun _ _ => trivial, ?_⟩
                rw [Fence.inRound_round, Oper.semAt_some l' _ _ (by intro c hc; cases hc)]
                go_simp
                refine hK _ _ ?_
                clear hK K
                try simp only [Act.put, List.setIfInBounds_toArray, List.set_cons_zero, List.set_cons_succ]
                refine wpAnyIn_ready (rs := [6]) (by kernel_rfl) (by simp) ?_
                refine AllReadyIn.cons (o := _) rfl (fun K hK => ?_) ?_
                · rw [if_pos (by rfl)]
                  refine ⟨fun _ _ => trivial, ?_⟩
                  rw [Fence.inRound_round, Oper.semAt_some l' _ _ (by intro c hc; cases hc)]
                  go_simp
                  refine hK _ _ ?_
                  clear hK K
                  try simp only [Act.put, List.setIfInBounds_toArray, List.set_cons_zero, List.set_cons_succ]
                  refine wpAnyIn_ready (rs := [7]) (by kernel_rfl) (by simp) ?_
                  refine AllReadyIn.cons (o := _) rfl (fun K hK => ?_) ?_
                  · rw [if_pos (by rfl)]
                    refine ⟨fun _ _ => trivial, ?_⟩
                    rw [Fence.inRound_round, Oper.semAt_some l' _ _ (by intro c hc; cases hc)]
                    go_simp
                    refine hK _ _ ?_
                    clear hK K
                    try simp only [Act.put, List.setIfInBounds_toArray, List.set_cons_zero, List.set_cons_succ]
                    refine wpAnyIn_ready (rs := [8]) (by kernel_rfl) (by simp) ?_
                    refine AllReadyIn.cons (o := _) rfl (fun K hK => ?_) AllReadyIn.nil
                    rw [if_pos (by rfl)]
                    refine ⟨fun _ _ => trivial, ?_⟩
                    rw [Fence.inRound_round, Oper.semAt_some l' _ _ (by intro c hc; cases hc)]
                    go_simp
                    refine ⟨rfl, HRR.out.mono ?_⟩
                    rintro e w3 ⟨rfl, hM3, hKS⟩
                    dsimp only
                    refine hK _ _ ?_
                    clear hK K
                    try simp only [Act.put, List.setIfInBounds_toArray, List.set_cons_zero, List.set_cons_succ]
                    refine wpAnyIn_ready (rs := [9]) (by kernel_rfl) (by simp) ?_
                    refine AllReadyIn.cons (o := _) rfl (fun K hK => ?_) AllReadyIn.nil
                    rw [if_pos (by rfl)]
                    refine ⟨fun _ _ => trivial, ?_⟩
                    rw [Fence.inRound_round, Oper.semAt_some l' _ _ (by intro c hc; cases hc)]
                    go_simp
                    refine hK _ _ ?_
                    clear hK K
                    try simp only [Act.put, List.setIfInBounds_toArray, List.set_cons_zero, List.set_cons_succ]
                    refine wpAnyIn_done (by kernel_rfl) ?_ _
                    gi_wp2
                    exact FIN.out w3 hM3 hKS
                  exact AllReadyIn.nil
                exact AllReadyIn.nil
              exact AllReadyIn.nil
            refine AllReadyIn.cons (o := _) rfl (fun K hK => ?_) ?_
            · rw [if_pos (by rfl)]
              refine ⟨fun _ _ => trivial, ?_⟩
              rw [Fence.inRound_round, Oper.semAt_some l' _ _ (by intro c hc; cases hc)]
              go_simp
              refine hK _ _ ?_
              clear hK K
              try simp only [Act.put, List.setIfInBounds_toArray, List.set_cons_zero, List.set_cons_succ]
              refine wpAnyIn_ready (rs := [0, 6]) (by kernel_rfl) (by simp) ?_
              refine AllReadyIn.cons (o := _) rfl (fun K hK => ?_) ?_
              · rw [if_pos (by rfl)]
                refine ⟨fun _ _ => trivial, ?_⟩
                rw [Fence.inRound_round, Oper.semAt_some l' _ _ (by intro c hc; cases hc)]
                go_simp
                refine hK _ _ ?_
                clear hK K
                try simp only [Act.put, List.setIfInBounds_toArray, List.set_cons_zero, List.set_cons_succ]
                refine wpAnyIn_ready (rs := [6]) (by kernel_rfl) (by simp) ?_
                refine AllReadyIn.cons (o := _) rfl (fun K hK => ?_) ?_
                · rw [if_pos (by rfl)]
                  refine ⟨fun _ _ => trivial, ?_⟩
                  rw [Fence.inRound_round, Oper.semAt_some l' _ _ (by intro c hc; cases hc)]
                  go_simp
                  refine hK _ _ ?_
                  clear hK K
                  try simp only [Act.put, List.setIfInBounds_toArray, List.set_cons_zero, List.set_cons_succ]
                  refine wpAnyIn_ready (rs := [7]) (by kernel_rfl) (by simp) ?_
                  refine AllReadyIn.cons (o := _) rfl (fun K hK => ?_) ?_
                  · rw [if_pos (by rfl)]
                    refine ⟨fun _ _ => trivial, ?_⟩
                    rw [Fence.inRound_round, Oper.semAt_some l' _ _ (by intro c hc; cases hc)]
                    go_simp
                    refine hK _ _ ?_
                    clear hK K
                    try simp only [Act.put, List.setIfInBounds_toArray, List.set_cons_zero, List.set_cons_succ]
                    refine wpAnyIn_ready (rs := [8]) (by kernel_rfl) (by simp) ?_
                    refine AllReadyIn.cons (o := _) rfl (fun K hK => ?_) AllReadyIn.nil
                    rw [if_pos (by rfl)]
                    refine ⟨fun _ _ => trivial, ?_⟩
                    rw [Fence.inRound_round, Oper.semAt_some l' _ _ (by intro c hc; cases hc)]
                    go_simp
                    refine ⟨rfl, HRR.out.mono ?_⟩
                    rintro e w3 ⟨rfl, hM3, hKS⟩
                    dsimp only
                    refine hK _ _ ?_
                    clear hK K
                    try simp only [Act.put, List.setIfInBounds_toArray, List.set_cons_zero, List.set_cons_succ]
                    refine wpAnyIn_ready (rs := [9]) (by kernel_rfl) (by simp) ?_
                    refine AllReadyIn.cons (o := _) rfl (fun K hK => ?_) AllReadyIn.nil
                    rw [if_pos (by rfl)]
                    refine ⟨fun _ _ => trivial, ?_⟩
                    rw [Fence.inRound_round, Oper.semAt_some l' _ _ (by intro c hc; cases hc)]
                    go_simp
                    refine hK _ _ ?_
                    clear hK K
                    try simp only [Act.put, List.setIfInBounds_toArray, List.set_cons_zero, List.set_cons_succ]
                    refine wpAnyIn_done (by kernel_rfl) ?_ _
                    gi_wp2
                    exact FIN.out w3 hM3 hKS
                  exact AllReadyIn.nil
                exact AllReadyIn.nil
              refine AllReadyIn.cons (o := _) rfl (fun K hK => ?_) ?_
              · rw [if_pos (by rfl)]
                refine ⟨fun _ _ => trivial, ?_⟩
                rw [Fence.inRound_round, Oper.semAt_some l' _ _ (by intro c hc; cases hc)]
                go_simp
                refine hK _ _ ?_
                clear hK K
                try simp only [Act.put, List.setIfInBounds_toArray, List.set_cons_zero, List.set_cons_succ]
                refine wpAnyIn_ready (rs := [0, 7]) (by kernel_rfl) (by simp) ?_
                refine AllReadyIn.cons (o := _) rfl (fun K hK => ?_) ?_
                · rw [if_pos (by rfl)]
                  refine ⟨fun _ _ => trivial, ?_⟩
                  rw [Fence.inRound_round, Oper.semAt_some l' _ _ (by intro c hc; cases hc)]
                  go_simp
                  refine hK _ _ ?_
                  clear hK K
                  try simp only [Act.put, List.setIfInBounds_toArray, List.set_cons_zero, List.set_cons_succ]
                  refine wpAnyIn_ready (rs := [7]) (by kernel_rfl) (by simp) ?_
                  refine AllReadyIn.cons (o := _) rfl (fun K hK => ?_) ?_
                  · rw [if_pos (by rfl)]
                    refine ⟨fun _ _ => trivial, ?_⟩
                    rw [Fence.inRound_round, Oper.semAt_some l' _ _ (by intro c hc; cases hc)]
                    go_simp
                    refine hK _ _ ?_
                    clear hK K
                    try simp only [Act.put, List.setIfInBounds_toArray, List.set_cons_zero, List.set_cons_succ]
                    refine wpAnyIn_ready (rs := [8]) (by kernel_rfl) (by simp) ?_
                    refine AllReadyIn.cons (o := _) rfl (fun K hK => ?_) AllReadyIn.nil
                    rw [if_pos (by rfl)]
                    refine ⟨fun _ _ => trivial, ?_⟩
                    rw [Fence.inRound_round, Oper.semAt_some l' _ _ (by intro c hc; cases hc)]
                    go_simp
                    refine ⟨rfl, HRR.out.mono ?_⟩
                    rintro e w3 ⟨rfl, hM3, hKS⟩
                    dsimp only
                    refine hK _ _ ?_
                    clear hK K
                    try simp only [Act.put, List.setIfInBounds_toArray, List.set_cons_zero, List.set_cons_succ]
                    refine wpAnyIn_ready (rs := [9]) (by kernel_rfl) (by simp) ?_
                    refine AllReadyIn.cons (o := _) rfl (fun K hK => ?_) AllReadyIn.nil
                    rw [if_pos (by rfl)]
                    refine ⟨fun _ _ => trivial, ?_⟩
                    rw [Fence.inRound_round, Oper.semAt_some l' _ _ (by intro c hc; cases hc)]
                    go_simp
                    refine hK _ _ ?_
                    clear hK K
                    try simp only [Act.put, List.setIfInBounds_toArray, List.set_cons_zero, List.set_cons_succ]
                    refine wpAnyIn_done (by kernel_rfl) ?_ _
                    gi_wp2
                    exact FIN.out w3 hM3 hKS
                  exact AllReadyIn.nil
                refine AllReadyIn.cons (o := _) rfl (fun K hK => ?_) ?_
                · rw [if_pos (by rfl)]
                  refine ⟨fun _ _ => trivial, ?_⟩
                  rw [Fence.inRound_round, Oper.semAt_some l' _ _ (by intro c hc; cases hc)]
                  go_simp
                  refine hK _ _ ?_
                  clear hK K
                  try simp only [Act.put, List.setIfInBounds_toArray, List.set_cons_zero, List.set_cons_succ]
                  refine wpAnyIn_ready (rs := [0]) (by kernel_rfl) (by simp) ?_
                  refine AllReadyIn.cons (o := _) rfl (fun K hK => ?_) ?_
                  · rw [if_pos (by rfl)]
                    refine ⟨fun _ _ => trivial, ?_⟩
                    rw [Fence.inRound_round, Oper.semAt_some l' _ _ (by intro c hc; cases hc)]
                    go_simp
                    refine hK _ _ ?_
                    clear hK K
                    try simp only [Act.put, List.setIfInBounds_toArray, List.set_cons_zero, List.set_cons_succ]
                    refine wpAnyIn_ready (rs := [8]) (by kernel_rfl) (by simp) ?_
                    refine AllReadyIn.cons (o := _) rfl (fun K hK => ?_) AllReadyIn.nil
                    rw [if_pos (by rfl)]
                    refine ⟨fun _ _ => trivial, ?_⟩
                    rw [Fence.inRound_round, Oper.semAt_some l' _ _ (by intro c hc; cases hc)]
                    go_simp
                    refine ⟨rfl, HRR.out.mono ?_⟩
                    rintro e w3 ⟨rfl, hM3, hKS⟩
                    dsimp only
                    refine hK _ _ ?_
                    clear hK K
                    try simp only [Act.put, List.setIfInBounds_toArray, List.set_cons_zero, List.set_cons_succ]
                    refine wpAnyIn_ready (rs := [9]) (by kernel_rfl) (by simp) ?_
                    refine AllReadyIn.cons (o := _) rfl (fun K hK => ?_) AllReadyIn.nil
                    rw [if_pos (by rfl)]
                    refine ⟨fun _ _ => trivial, ?_⟩
                    rw [Fence.inRound_round, Oper.semAt_some l' _ _ (by intro c hc; cases hc)]
                    go_simp
                    refine hK _ _ ?_
                    clear hK K
                    try simp only [Act.put, List.setIfInBounds_toArray, List.set_cons_zero, List.set_cons_succ]
                    refine wpAnyIn_done (by kernel_rfl) ?_ _
                    gi_wp2
                    exact FIN.out w3 hM3 hKS
                  exact AllReadyIn.nil
                exact AllReadyIn.nil
              exact AllReadyIn.nil
            exact AllReadyIn.nil
          exact AllReadyIn.nil
        exact AllReadyIn.nil
      refine AllReadyIn.cons (o := _) rfl (fun K hK => ?_) ?_
      · rw [if_pos (by rfl)]
        refine ⟨fun _ _ => trivial, ?_⟩
        rw [Fence.inRound_round, Oper.semAt_some l' _ _ (by intro c hc; cases hc)]
        go_simp
        refine hK _ _ ?_
        clear hK K
        try simp only [Act.put, List.setIfInBounds_toArray, List.set_cons_zero, List.set_cons_succ]
        refine wpAnyIn_ready (rs := [0, 2]) (by kernel_rfl) (by simp) ?_
        refine AllReadyIn.cons (o := _) rfl (fun K hK => ?_) ?_
        · rw [if_pos (by rfl)]
          refine ⟨fun _ _ => trivial, ?_⟩
          rw [Fence.inRound_round, Oper.semAt_some l' _ _ (by intro c hc; cases hc)]
          go_simp
          refine hK _ _ ?_
          clear hK K
          try simp only [Act.put, List.setIfInBounds_toArray, List.set_cons_zero, List.set_cons_succ]
          refine wpAnyIn_ready (rs := [2]) (by kernel_rfl) (by simp) ?_
          refine AllReadyIn.cons (o := _) rfl (fun K hK => ?_) ?_
          · rw [if_pos (by rfl)]
            refine ⟨fun _ _ => trivial, ?_⟩
            rw [Fence.inRound_round, Oper.semAt_some l' _ _ (by intro c hc; cases hc)]
            go_simp
            refine hK _ _ ?_
            clear hK K
            try simp only [Act.put, List.setIfInBounds_toArray, List.set_cons_zero, List.set_cons_succ]
            refine wpAnyIn_ready (rs := [3]) (by kernel_rfl) (by simp) ?_
            refine AllReadyIn.cons (o := _) rfl (fun K hK => ?_) ?_
            · rw [if_pos (by rfl)]
              refine ⟨fun _ _ => trivial, ?_⟩
              rw [Fence.inRound_round, Oper.semAt_some l' _ _ (by intro c hc; cases hc)]
              go_simp
              refine hK _ _ ?_
              clear hK K
              try simp only [Act.put, List.setIfInBounds_toArray, List.set_cons_zero, List.set_cons_succ]
              refine wpAnyIn_ready (rs := [4]) (by kernel_rfl) (by simp) ?_
              refine AllReadyIn.cons (o := _) rfl (fun K hK => ?_) ?_
              · rw [if_pos (by rfl)]
                refine ⟨fun _ _ => trivial, ?_⟩
                rw [Fence.inRound_round, Oper.semAt_some l' _ _ (by intro c hc; cases hc)]
                go_simp
                refine hK _ _ ?_
                clear hK K
                try simp only [Act.put, List.setIfInBounds_toArray, List.set_cons_zero, List.set_cons_succ]
                refine wpAnyIn_ready (rs := [6]) (by kernel_rfl) (by simp) ?_
                refine AllReadyIn.cons (o := _) rfl (fun K hK => ?_) ?_
                · rw [if_pos (by rfl)]
                  refine ⟨fun _ _ => trivial, ?_⟩
                  rw [Fence.inRound_round, Oper.semAt_some l' _ _ (by intro c hc; cases hc)]
                  go_simp
                  refine hK _ _ ?_
                  clear hK K
                  try simp only [Act.put, List.setIfInBounds_toArray, List.set_cons_zero, List.set_cons_succ]
                  refine wpAnyIn_ready (rs := [7]) (by kernel_rfl) (by simp) ?_
                  refine AllReadyIn.cons (o := _) rfl (fun K hK => ?_) ?_
                  · rw [if_pos (by rfl)]
                    refine ⟨fun _ _ => trivial, ?_⟩
                    rw [Fence.inRound_round, Oper.semAt_some l' _ _ (by intro c hc; cases hc)]
                    go_simp
                    refine hK _ _ ?_
                    clear hK K
                    try simp only [Act.put, List.setIfInBounds_toArray, List.set_cons_zero, List.set_cons_succ]
                    refine wpAnyIn_ready (rs := [8]) (by kernel_rfl) (by simp) ?_
                    refine AllReadyIn.cons (o := _) rfl (fun K hK => ?_) AllReadyIn.nil
                    rw [if_pos (by rfl)]
                    refine ⟨fun _ _ => trivial, ?_⟩
                    rw [Fence.inRound_round, Oper.semAt_some l' _ _ (by intro c hc; cases hc)]
                    go_simp
                    refine ⟨rfl, HRR.out.mono ?_⟩
                    rintro e w3 ⟨rfl, hM3, hKS⟩
                    dsimp only
                    refine hK _ _ ?_
                    clear hK K
                    try simp only [Act.put, List.setIfInBounds_toArray, List.set_cons_zero, List.set_cons_succ]
                    refine wpAnyIn_ready (rs := [9]) (by kernel_rfl) (by simp) ?_
                    refine AllReadyIn.cons (o := _) rfl (fun K hK => ?_) AllReadyIn.nil
                    rw [if_pos (by rfl)]
                    refine ⟨fun _ _ => trivial, ?_⟩
                    rw [Fence.inRound_round, Oper.semAt_some l' _ _ (by intro c hc; cases hc)]
                    go_simp
                    refine hK _ _ ?_
                    clear hK K
                    try simp only [Act.put, List.setIfInBounds_toArray, List.set_cons_zero, List.set_cons_succ]
                    refine wpAnyIn_done (by kernel_rfl) ?_ _
                    gi_wp2
                    exact FIN.out w3 hM3 hKS
                  exact AllReadyIn.nil
                exact AllReadyIn.nil
              exact AllReadyIn.nil
            exact AllReadyIn.nil
          exact AllReadyIn.nil
        refine AllReadyIn.cons (o := _) rfl (fun K hK => ?_) ?_
        · rw [if_pos (by rfl)]
          refine ⟨fun _ _ => trivial, ?_⟩
          rw [Fence.inRound_round, Oper.semAt_some l' _ _ (by intro c hc; cases hc)]
          go_simp
          refine hK _ _ ?_
          clear hK K
          try simp only [Act.put, List.setIfInBounds_toArray, List.set_cons_zero, List.set_cons_succ]
          refine wpAnyIn_ready (rs := [0, 3]) (by kernel_rfl) (by simp) ?_
          refine AllReadyIn.cons (o := _) rfl (fun K hK => ?_) ?_
          · rw [if_pos (by rfl)]
            refine ⟨fun _ _ => trivial, ?_⟩
            rw [Fence.inRound_round, Oper.semAt_some l' _ _ (by intro c hc; cases hc)]
            go_simp
            refine hK _ _ ?_
            clear hK K
            try simp only [Act.put, List.setIfInBounds_toArray, List.set_cons_zero, List.set_cons_succ]
            refine wpAnyIn_ready (rs := [3]) (by kernel_rfl) (by simp) ?_
            refine AllReadyIn.cons (o := _) rfl (fun K hK => ?_) ?_
            · rw [if_pos (by rfl)]
              refine ⟨fun _ _ => trivial, ?_⟩
              rw [Fence.inRound_round, Oper.semAt_some l' _ _ (by intro c hc; cases hc)]
              go_simp
              refine hK _ _ ?_
              clear hK K
              try simp only [Act.put, List.setIfInBounds_toArray, List.set_cons_zero, List.set_cons_succ]
              refine wpAnyIn_ready (rs := [4]) (by kernel_rfl) (by simp) ?_
              refine AllReadyIn.cons (o := _) rfl (fun K hK => ?_) ?_
              · rw [if_pos (by rfl)]
                refine ⟨fun _ _ => trivial, ?_⟩
                rw [Fence.inRound_round, Oper.semAt_some l' _ _ (by intro c hc; cases hc)]
                go_simp
                refine hK _ _ ?_
                clear hK K
                try simp only [Act.put, List.setIfInBounds_toArray, List.set_cons_zero, List.set_cons_succ]
                refine wpAnyIn_ready (rs := [6]) (by kernel_rfl) (by simp) ?_
                refine AllReadyIn.cons (o := _) rfl (fun K hK => ?_) ?_
                · rw [if_pos (by rfl)]
                  refine ⟨fun _ _ => trivial, ?_⟩
                  rw [Fence.inRound_round, Oper.semAt_some l' _ _ (by intro c hc; cases hc)]
                  go_simp
                  refine hK _ _ ?_
                  clear hK K
                  try simp only [Act.put, List.setIfInBounds_toArray, List.set_cons_zero, List.set_cons_succ]
                  refine wpAnyIn_ready (rs := [7]) (by kernel_rfl) (by simp) ?_
                  refine AllReadyIn.cons (o := _) rfl (fun K hK => ?_) ?_
                  · rw [if_pos (by rfl)]
                    refine ⟨fun _ _ => trivial, ?_⟩
                    rw [Fence.inRound_round, Oper.semAt_some l' _ _ (by intro c hc; cases hc)]
                    go_simp
                    refine hK _ _ ?_
                    clear hK K
                    try simp only [Act.put, List.setIfInBounds_toArray, List.set_cons_zero, List.set_cons_succ]
                    refine wpAnyIn_ready (rs := [8]) (by kernel_rfl) (by simp) ?_
                    refine AllReadyIn.cons (o := _) rfl (fun K hK => ?_) AllReadyIn.nil
                    rw [if_pos (by rfl)]
                    refine ⟨fun _ _ => trivial, ?_⟩
                    rw [Fence.inRound_round, Oper.semAt_some l' _ _ (by intro c hc; cases hc)]
                    go_simp
                    refine ⟨rfl, HRR.out.mono ?_⟩
                    rintro e w3 ⟨rfl, hM3, hKS⟩
                    dsimp only
                    refine hK _ _ ?_
                    clear hK K
                    try simp only [Act.put, List.setIfInBounds_toArray, List.set_cons_zero, List.set_cons_succ]
                    refine wpAnyIn_ready (rs := [9]) (by kernel_rfl) (by simp) ?_
                    refine AllReadyIn.cons (o := _) rfl (fun K hK => ?_) AllReadyIn.nil
                    rw [if_pos (by rfl)]
                    refine ⟨fun _ _ => trivial, ?_⟩
                    rw [Fence.inRound_round, Oper.semAt_some l' _ _ (by intro c hc; cases hc)]
                    go_simp
                    refine hK _ _ ?_
                    clear hK K
                    try simp only [Act.put, List.setIfInBounds_toArray, List.set_cons_zero, List.set_cons_succ]
                    refine wpAnyIn_done (by kernel_rfl) ?_ _
                    gi_wp2
                    exact FIN.out w3 hM3 hKS
                  exact AllReadyIn.nil
                exact AllReadyIn.nil
              exact AllReadyIn.nil
            exact AllReadyIn.nil
          refine AllReadyIn.cons (o := _) rfl (fun K hK => ?_) ?_
          · rw [if_pos (by rfl)]
            refine ⟨fun _ _ => trivial, ?_⟩
            rw [Fence.inRound_round, Oper.semAt_some l' _ _ (by intro c hc; cases hc)]
            go_simp
            refine hK _ _ ?_
            clear hK K
            try simp only [Act.put, List.setIfInBounds_toArray, List.set_cons_zero, List.set_cons_succ]
            refine wpAnyIn_ready (rs := [0, 4]) (by kernel_rfl) (by simp) ?_
            refine AllReadyIn.cons (o := _) rfl (fun K hK => ?_) ?_
            · rw [if_pos (by rfl)]
              refine ⟨fun _ _ => trivial, ?_⟩
              rw [Fence.inRound_round, Oper.semAt_some l' _ _ (by intro c hc; cases hc)]
              go_simp
              refine hK _ _ ?_
              clear hK K
              try simp only [Act.put, List.setIfInBounds_toArray, List.set_cons_zero, List.set_cons_succ]
              refine wpAnyIn_ready (rs := [4]) (by kernel_rfl) (by simp) ?_
              refine AllReadyIn.cons (o := _) rfl (fun K hK => ?_) ?_
              · rw [if_pos (by rfl)]
                refine ⟨fun _ _ => trivial, ?_⟩
                rw [Fence.inRound_round, Oper.semAt_some l' _ _ (by intro c hc; cases hc)]
                go_simp
                refine hK _ _ ?_
                clear hK K
                try simp only [Act.put, List.setIfInBounds_toArray, List.set_cons_zero, List.set_cons_succ]
                refine wpAnyIn_ready (rs := [6]) (by kernel_rfl) (by simp) ?_
                refine AllReadyIn.cons (o := _) rfl (fun K hK => ?_) ?_
                · rw [if_pos (by rfl)]
                  refine ⟨fun _ _ => trivial, ?_⟩
                  rw [Fence.inRound_round, Oper.semAt_some l' _ _ (by intro c hc; cases hc)]
                  go_simp
                  refine hK _ _ ?_
                  clear hK K
                  try simp only [Act.put, List.setIfInBounds_toArray, List.set_cons_zero, List.set_cons_succ]
                  refine wpAnyIn_ready (rs := [7]) (by kernel_rfl) (by simp) ?_
                  refine AllReadyIn.cons (o := _) rfl (fun K hK => ?_) ?_
                  · rw [if_pos (by rfl)]
                    refine ⟨fun _ _ => trivial, ?_⟩
                    rw [Fence.inRound_round, Oper.semAt_some l' _ _ (by intro c hc; cases hc)]
                    go_simp
                    refine hK _ _ ?_
                    clear hK K
                    try simp only [Act.put, List.setIfInBounds_toArray, List.set_cons_zero, List.set_cons_succ]
                    refine wpAnyIn_ready (rs := [8]) (by kernel_rfl) (by simp) ?_
                    refine AllReadyIn.cons (o := _) rfl (fun K hK => ?_) AllReadyIn.nil
                    rw [if_pos (by rfl)]
                    refine ⟨fun _ _ => trivial, ?_⟩
                    rw [Fence.inRound_round, Oper.semAt_some l' _ _ (by intro c hc; cases hc)]
                    go_simp
                    refine ⟨rfl, HRR.out.mono ?_⟩
                    rintro e w3 ⟨rfl, hM3, hKS⟩
                    dsimp only
                    refine hK _ _ ?_
                    clear hK K
                    try simp only [Act.put, List.setIfInBounds_toArray, List.set_cons_zero, List.set_cons_succ]
                    refine wpAnyIn_ready (rs := [9]) (by kernel_rfl) (by simp) ?_
                    refine AllReadyIn.cons (o := _) rfl (fun K hK => ?_) AllReadyIn.nil
                    rw [if_pos (by rfl)]
                    refine ⟨fun _ _ => trivial, ?_⟩
                    rw [Fence.inRound_round, Oper.semAt_some l' _ _ (by intro c hc; cases hc)]
                    go_simp
                    refine hK _ _ ?_
                    clear hK K
                    try simp only [Act.put, List.setIfInBounds_toArray, List.set_cons_zero, List.set_cons_succ]
                    refine wpAnyIn_done (by kernel_rfl) ?_ _
                    gi_wp2
                    exact FIN.out w3 hM3 hKS
                  exact AllReadyIn.nil
                exact AllReadyIn.nil
              exact AllReadyIn.nil
            refine AllReadyIn.cons (o := _) rfl (fun K hK => ?_) ?_
            · rw [if_pos (by rfl)]
              refine ⟨fun _ _ => trivial, ?_⟩
              rw [Fence.inRound_round, Oper.semAt_some l' _ _ (by intro c hc; cases hc)]
              go_simp
              refine hK _ _ ?_
              clear hK K
              try simp only [Act.put, List.setIfInBounds_toArray, List.set_cons_zero, List.set_cons_succ]
              refine wpAnyIn_ready (rs := [0, 6]) (by kernel_rfl) (by simp) ?_
              refine AllReadyIn.cons (o := _) rfl (fun K hK => ?_) ?_
              · rw [if_pos (by rfl)]
                refine ⟨fun _ _ => trivial, ?_⟩
                rw [Fence.inRound_round, Oper.semAt_some l' _ _ (by intro c hc; cases hc)]
                go_simp
                refine hK _ _ ?_
                clear hK K
                try simp only [Act.put, List.setIfInBounds_toArray, List.set_cons_zero, List.set_cons_succ]
                refine wpAnyIn_ready (rs := [6]) (by kernel_rfl) (by simp) ?_
                refine AllReadyIn.cons (o := _) rfl (fun K hK => ?_) ?_
                · rw [if_pos (by rfl)]
                  refine ⟨fun _ _ => trivial, ?_⟩
                  rw [Fence.inRound_round, Oper.semAt_some l' _ _ (by intro c hc; cases hc)]
                  go_simp
                  refine hK _ _ ?_
                  clear hK K
                  try simp only [Act.put, List.setIfInBounds_toArray, List.set_cons_zero, List.set_cons_succ]
                  refine wpAnyIn_ready (rs := [7]) (by kernel_rfl) (by simp) ?_
                  refine AllReadyIn.cons (o := _) rfl (fun K hK => ?_) ?_
                  · rw [if_pos (by rfl)]
                    refine ⟨fun _ _ => trivial, ?_⟩
                    rw [Fence.inRound_round, Oper.semAt_some l' _ _ (by intro c hc; cases hc)]
                    go_simp
                    refine hK _ _ ?_
                    clear hK K
                    try simp only [Act.put, List.setIfInBounds_toArray, List.set_cons_zero, List.set_cons_succ]
                    refine wpAnyIn_ready (rs := [8]) (by kernel_rfl) (by simp) ?_
                    refine AllReadyIn.cons (o := _) rfl (fun K hK => ?_) AllReadyIn.nil
                    rw [if_pos (by rfl)]
                    refine ⟨fun _ _ => trivial, ?_⟩
                    rw [Fence.inRound_round, Oper.semAt_some l' _ _ (by intro c hc; cases hc)]
                    go_simp
                    refine ⟨rfl, HRR.out.mono ?_⟩
                    rintro e w3 ⟨rfl, hM3, hKS⟩
                    dsimp only
                    refine hK _ _ ?_
                    clear hK K
                    try simp only [Act.put, List.setIfInBounds_toArray, List.set_cons_zero, List.set_cons_succ]
                    refine wpAnyIn_ready (rs := [9]) (by kernel_rfl) (by simp) ?_
                    refine AllReadyIn.cons (o := _) rfl (fun K hK => ?_) AllReadyIn.nil
                    rw [if_pos (by rfl)]
                    refine ⟨fun _ _ => trivial, ?_⟩
                    rw [Fence.inRound_round, Oper.semAt_some l' _ _ (by intro c hc; cases hc)]
                    go_simp
                    refine hK _ _ ?_
                    clear hK K
                    try simp only [Act.put, List.setIfInBounds_toArray, List.set_cons_zero, List.set_cons_succ]
                    refine wpAnyIn_done (by kernel_rfl) ?_ _
                    gi_wp2
                    exact FIN.out w3 hM3 hKS
                  exact AllReadyIn.nil
                exact AllReadyIn.nil
              refine AllReadyIn.cons (o := _) rfl (fun K hK => ?_) ?_
              · rw [if_pos (by rfl)]
                refine ⟨fun _ _ => trivial, ?_⟩
                rw [Fence.inRound_round, Oper.semAt_some l' _ _ (by intro c hc; cases hc)]
                go_simp
                refine hK _ _ ?_
                clear hK K
                try simp only [Act.put, List.setIfInBounds_toArray, List.set_cons_zero, List.set_cons_succ]
                refine wpAnyIn_ready (rs := [0, 7]) (by kernel_rfl) (by simp) ?_
                refine AllReadyIn.cons (o := _) rfl (fun K hK => ?_) ?_
                · rw [if_pos (by rfl)]
                  refine ⟨fun _ _ => trivial, ?_⟩
                  rw [Fence.inRound_round, Oper.semAt_some l' _ _ (by intro c hc; cases hc)]
                  go_simp
                  refine hK _ _ ?_
                  clear hK K
                  try simp only [Act.put, List.setIfInBounds_toArray, List.set_cons_zero, List.set_cons_succ]
                  refine wpAnyIn_ready (rs := [7]) (by kernel_rfl) (by simp) ?_
                  refine AllReadyIn.cons (o := _) rfl (fun K hK => ?_) ?_
                  · rw [if_pos (by rfl)]
                    refine ⟨fun _ _ => trivial, ?_⟩
                    rw [Fence.inRound_round, Oper.semAt_some l' _ _ (by intro c hc; cases hc)]
                    go_simp
                    refine hK _ _ ?_
                    clear hK K
                    try simp only [Act.put, List.setIfInBounds_toArray, List.set_cons_zero, List.set_cons_succ]
                    refine wpAnyIn_ready (rs := [8]) (by kernel_rfl) (by simp) ?_
                    refine AllReadyIn.cons (o := _) rfl (fun K hK => ?_) AllReadyIn.nil
                    rw [if_pos (by rfl)]
                    refine ⟨fun _ _ => trivial, ?_⟩
                    rw [Fence.inRound_round, Oper.semAt_some l' _ _ (by intro c hc; cases hc)]
                    go_simp
                    refine ⟨rfl, HRR.out.mono ?_⟩
                    rintro e w3 ⟨rfl, hM3, hKS⟩
                    dsimp only
                    refine hK _ _ ?_
                    clear hK K
                    try simp only [Act.put, List.setIfInBounds_toArray, List.set_cons_zero, List.set_cons_succ]
                    refine wpAnyIn_ready (rs := [9]) (by kernel_rfl) (by simp) ?_
                    refine AllReadyIn.cons (o := _) rfl (fun K hK => ?_) AllReadyIn.nil
                    rw [if_pos (by rfl)]
                    refine ⟨fun _ _ => trivial, ?_⟩
                    rw [Fence.inRound_round, Oper.semAt_some l' _ _ (by intro c hc; cases hc)]
                    go_simp
                    refine hK _ _ ?_
                    clear hK K
                    try simp only [Act.put, List.setIfInBounds_toArray, List.set_cons_zero, List.set_cons_succ]
                    refine wpAnyIn_done (by kernel_rfl) ?_ _
                    gi_wp2
                    exact FIN.out w3 hM3 hKS
                  exact AllReadyIn.nil
                refine AllReadyIn.cons (o := _) rfl (fun K hK => ?_) ?_
                · rw [if_pos (by rfl)]
                  refine ⟨fun _ _ => trivial, ?_⟩
                  rw [Fence.inRound_round, Oper.semAt_some l' _ _ (by intro c hc; cases hc)]
                  go_simp
                  refine hK _ _ ?_
                  clear hK K
                  try simp only [Act.put, List.setIfInBounds_toArray, List.set_cons_zero, List.set_cons_succ]
                  refine wpAnyIn_ready (rs := [0]) (by kernel_rfl) (by simp) ?_
                  refine AllReadyIn.cons (o := _) rfl (fun K hK => ?_) ?_
                  · rw [if_pos (by rfl)]
                    refine ⟨fun _ _ => trivial, ?_⟩
                    rw [Fence.inRound_round, Oper.semAt_some l' _ _ (by intro c hc; cases hc)]
                    go_simp
                    refine hK _ _ ?_
                    clear hK K
                    try simp only [Act.put, List.setIfInBounds_toArray, List.set_cons_zero, List.set_cons_succ]
                    refine wpAnyIn_ready (rs := [8]) (by kernel_rfl) (by simp) ?_
                    refine AllReadyIn.cons (o := _) rfl (fun K hK => ?_) AllReadyIn.nil
                    rw [if_pos (by rfl)]
                    refine ⟨fun _ _ => trivial, ?_⟩
                    rw [Fence.inRound_round, Oper.semAt_some l' _ _ (by intro c hc; cases hc)]
                    go_simp
                    refine ⟨rfl, HRR.out.mono ?_⟩
                    rintro e w3 ⟨rfl, hM3, hKS⟩
                    dsimp only
                    refine hK _ _ ?_
                    clear hK K
                    try simp only [Act.put, List.setIfInBounds_toArray, List.set_cons_zero, List.set_cons_succ]
                    refine wpAnyIn_ready (rs := [9]) (by kernel_rfl) (by simp) ?_
                    refine AllReadyIn.cons (o := _) rfl (fun K hK => ?_) AllReadyIn.nil
                    rw [if_pos (by rfl)]
                    refine ⟨fun _ _ => trivial, ?_⟩
                    rw [Fence.inRound_round, Oper.semAt_some l' _ _ (by intro c hc; cases hc)]
                    go_simp
                    refine hK _ _ ?_
                    clear hK K
                    try simp only [Act.put, List.setIfInBounds_toArray, List.set_cons_zero, List.set_cons_succ]
                    refine wpAnyIn_done (by kernel_rfl) ?_ _
                    gi_wp2
                    exact FIN.out w3 hM3 hKS
                  exact AllReadyIn.nil
                exact AllReadyIn.nil
              exact AllReadyIn.nil
            exact AllReadyIn.nil
          exact AllReadyIn.nil
        exact AllReadyIn.nil
      exact AllReadyIn.nil
    refine AllReadyIn.cons (o := _) rfl (fun K hK => ?_) ?_
    · rw [if_pos (by rfl)]
      refine ⟨fun _ _ => trivial, ?_⟩
      rw [Fence.inRound_round, Oper.semAt_some l' _ _ (by intro c hc; cases hc)]
      go_simp
      refine hK _ _ ?_
      clear hK K
      try simp only [Act.put, List.setIfInBounds_toArray, List.set_cons_zero, List.set_cons_succ]
      refine wpAnyIn_ready (rs := [0, 1]) (by kernel_rfl) (by simp) ?_
      refine AllReadyIn.cons (o := _) rfl (fun K hK => ?_) ?_
      · rw [if_pos (by rfl)]
        refine ⟨fun _ _ => trivial, ?_⟩
        rw [Fence.inRound_round, Oper.semAt_some l' _ _ (by intro c hc; cases hc)]
        go_simp
        refine hK _ _ ?_
        clear hK K
        try simp only [Act.put, List.setIfInBounds_toArray, List.set_cons_zero, List.set_cons_succ]
        refine wpAnyIn_ready (rs := [1]) (by kernel_rfl) (by simp) ?_
        refine AllReadyIn.cons (o := _) rfl (fun K hK => ?_) ?_
        · rw [if_pos (by rfl)]
          refine ⟨fun _ _ => trivial, ?_⟩
          rw [Fence.inRound_round, Oper.semAt_some l' _ _ (by intro c hc; cases hc)]
          go_simp
          refine hK _ _ ?_
          clear hK K
          try simp only [Act.put, List.setIfInBounds_toArray, List.set_cons_zero, List.set_cons_succ]
          refine wpAnyIn_ready (rs := [2]) (by kernel_rfl) (by simp) ?_
          refine AllReadyIn.cons (o := _) rfl (fun K hK => ?_) ?_
          · rw [if_pos (by rfl)]
            refine ⟨fun _ _ => trivial, ?_⟩
            rw [Fence.inRound_round, Oper.semAt_some l' _ _ (by intro c hc; cases hc)]
            go_simp
            refine hK _ _ ?_
            clear hK K
            try simp only [Act.put, List.setIfInBounds_toArray, List.set_cons_zero, List.set_cons_succ]
            refine wpAnyIn_ready (rs := [3]) (by kernel_rfl) (by simp) ?_
            refine AllReadyIn.cons (o := _) rfl (fun K hK => ?_) ?_
            · rw [if_pos (by rfl)]
              refine ⟨fun _ _ => trivial, ?_⟩
              rw [Fence.inRound_round, Oper.semAt_some l' _ _ (by intro c hc; cases hc)]
              go_simp
              refine hK _ _ ?_
              clear hK K
              try simp only [Act.put, List.setIfInBounds_toArray, List.set_cons_zero, List.set_cons_succ]
              refine wpAnyIn_ready (rs := [4]) (by kernel_rfl) (by simp) ?_
              refine AllReadyIn.cons (o := _) rfl (fun K hK => ?_) ?_
              · rw [if_pos (by rfl)]
                refine ⟨fun _ _ => trivial, ?_⟩
                rw [Fence.inRound_round, Oper.semAt_some l' _ _ (by intro c hc; cases hc)]
                go_simp
                refine hK _ _ ?_
                clear hK K
                try simp only [Act.put, List.setIfInBounds_toArray, List.set_cons_zero, List.set_cons_succ]
                refine wpAnyIn_ready (rs := [6]) (by kernel_rfl) (by simp) ?_
                refine AllReadyIn.cons (o := _) rfl (fun K hK => ?_) ?_
                · rw [if_pos (by rfl)]
                  refine ⟨fun _ _ => trivial, ?_⟩
                  rw [Fence.inRound_round, Oper.semAt_some l' _ _ (by intro c hc; cases hc)]
                  go_simp
                  refine hK _ _ ?_
                  clear hK K
                  try simp only [Act.put, List.setIfInBounds_toArray, List.set_cons_zero, List.set_cons_succ]
                  refine wpAnyIn_ready (rs := [7]) (by kernel_rfl) (by simp) ?_
                  refine AllReadyIn.cons (o := _) rfl (fun K hK => ?_) ?_
                  · rw [if_pos (by rfl)]
                    refine ⟨fun _ _ => trivial, ?_⟩
                    rw [Fence.inRound_round, Oper.semAt_some l' _ _ (by intro c hc; cases hc)]
                    go_simp
                    refine hK _ _ ?_
                    clear hK K
                    try simp only [Act.put, List.setIfInBounds_toArray, List.set_cons_zero, List.set_cons_succ]
                    refine wpAnyIn_ready (rs := [8]) (by kernel_rfl) (by simp) ?_
                    refine AllReadyIn.cons (o := _) rfl (fun K hK => ?_) AllReadyIn.nil
                    rw [if_pos (by rfl)]
                    refine ⟨fun _ _ => trivial, ?_⟩
                    rw [Fence.inRound_round, Oper.semAt_some l' _ _ (by intro c hc; cases hc)]
                    go_simp
                    refine ⟨rfl, HRR.out.mono ?_⟩
                    rintro e w3 ⟨rfl, hM3, hKS⟩
                    dsimp only
                    refine hK _ _ ?_
                    clear hK K
                    try simp only [Act.put, List.setIfInBounds_toArray, List.set_cons_zero, List.set_cons_succ]
                    refine wpAnyIn_ready (rs := [9]) (by kernel_rfl) (by simp) ?_
                    refine AllReadyIn.cons (o := _) rfl (fun K hK => ?_) AllReadyIn.nil
                    rw [if_pos (by rfl)]
                    refine ⟨fun _ _ => trivial, ?_⟩
                    rw [Fence.inRound_round, Oper.semAt_some l' _ _ (by intro c hc; cases hc)]
                    go_simp
                    refine hK _ _ ?_
                    clear hK K
                    try simp only [Act.put, List.setIfInBounds_toArray, List.set_cons_zero, List.set_cons_succ]
                    refine wpAnyIn_done (by kernel_rfl) ?_ _
                    gi_wp2
                    exact FIN.out w3 hM3 hKS
                  exact AllReadyIn.nil
                exact AllReadyIn.nil
              exact AllReadyIn.nil
            exact AllReadyIn.nil
          exact AllReadyIn.nil
        exact AllReadyIn.nil
      refine AllReadyIn.cons (o := _) rfl (fun K hK => ?_) ?_
      · rw [if_pos (by rfl)]
        refine ⟨fun _ _ => trivial, ?_⟩
        rw [Fence.inRound_round, Oper.semAt_some l' _ _ (by intro c hc; cases hc)]
        go_simp
        refine hK _ _ ?_
        clear hK K
        try simp only [Act.put, List.setIfInBounds_toArray, List.set_cons_zero, List.set_cons_succ]
        refine wpAnyIn_ready (rs := [0, 2]) (by kernel_rfl) (by simp) ?_
        refine AllReadyIn.cons (o := _) rfl (fun K hK => ?_) ?_
        · rw [if_pos (by rfl)]
          refine ⟨fun _ _ => trivial, ?_⟩
          rw [Fence.inRound_round, Oper.semAt_some l' _ _ (by intro c hc; cases hc)]
          go_simp
          refine hK _ _ ?_
          clear hK K
          try simp only [Act.put, List.setIfInBounds_toArray, List.set_cons_zero, List.set_cons_succ]
          refine wpAnyIn_ready (rs := [2]) (by kernel_rfl) (by simp) ?_
          refine AllReadyIn.cons (o := _) rfl (fun K hK => ?_) ?_
          · rw [if_pos (by rfl)]
            refine ⟨fun _ _ => trivial, ?_⟩
            rw [Fence.inRound_round, Oper.semAt_some l' _ _ (by intro c hc; cases hc)]
            go_simp
            refine hK _ _ ?_
            clear hK K
            try simp only [Act.put, List.setIfInBounds_toArray, List.set_cons_zero, List.set_cons_succ]
            refine wpAnyIn_ready (rs := [3]) (by kernel_rfl) (by simp) ?_
            refine AllReadyIn.cons (o := _) rfl (fun K hK => ?_) ?_
            · rw [if_pos (by rfl)]
              refine ⟨fun _ _ => trivial, ?_⟩
              rw [Fence.inRound_round, Oper.semAt_some l' _ _ (by intro c hc; cases hc)]
              go_simp
              refine hK _ _ ?_
              clear hK K
              try simp only [Act.put, List.setIfInBounds_toArray, List.set_cons_zero, List.set_cons_succ]
              refine wpAnyIn_ready (rs := [4]) (by kernel_rfl) (by simp) ?_
              refine AllReadyIn.cons (o := _) rfl (fun K hK => ?_) ?_
              · rw [if_pos (by rfl)]
                refine ⟨fun _ _ => trivial, ?_⟩
                rw [Fence.inRound_round, Oper.semAt_some l' _ _ (by intro c hc; cases hc)]
                go_simp
                refine hK _ _ ?_
                clear hK K
                try simp only [Act.put, List.setIfInBounds_toArray, List.set_cons_zero, List.set_cons_succ]
                refine wpAnyIn_ready (rs := [6]) (by kernel_rfl) (by simp) ?_
                refine AllReadyIn.cons (o := _) rfl (fun K hK => ?_) ?_
                · rw [if_pos (by rfl)]
                  refine ⟨fun _ _ => trivial, ?_⟩
                  rw [Fence.inRound_round, Oper.semAt_some l' _ _ (by intro c hc; cases hc)]
                  go_simp
                  refine hK _ _ ?_
                  clear hK K
                  try simp only [Act.put, List.setIfInBounds_toArray, List.set_cons_zero, List.set_cons_succ]
                  refine wpAnyIn_ready (rs := [7]) (by kernel_rfl) (by simp) ?_
                  refine AllReadyIn.cons (o := _) rfl (fun K hK => ?_) ?_
                  · rw [if_pos (by rfl)]
                    refine ⟨fun _ _ => trivial, ?_⟩
                    rw [Fence.inRound_round, Oper.semAt_some l' _ _ (by intro c hc; cases hc)]
                    go_simp
                    refine hK _ _ ?_
                    clear hK K
                    try simp only [Act.put, List.setIfInBounds_toArray, List.set_cons_zero, List.set_cons_succ]
                    refine wpAnyIn_ready (rs := [8]) (by kernel_rfl) (by simp) ?_
                    refine AllReadyIn.cons (o := _) rfl (fun K hK => ?_) AllReadyIn.nil
                    rw [if_pos (by rfl)]
                    refine ⟨fun _ _ => trivial, ?_⟩
                    rw [Fence.inRound_round, Oper.semAt_some l' _ _ (by intro c hc; cases hc)]
                    go_simp
                    refine ⟨rfl, HRR.out.mono ?_⟩
                    rintro e w3 ⟨rfl, hM3, hKS⟩
                    dsimp only
                    refine hK _ _ ?_
                    clear hK K
                    try simp only [Act.put, List.setIfInBounds_toArray, List.set_cons_zero, List.set_cons_succ]
                    refine wpAnyIn_ready (rs := [9]) (by kernel_rfl) (by simp) ?_
                    refine AllReadyIn.cons (o := _) rfl (fun K hK => ?_) AllReadyIn.nil
                    rw [if_pos (by rfl)]
                    refine ⟨fun _ _ => trivial, ?_⟩
                    rw [Fence.inRound_round, Oper.semAt_some l' _ _ (by intro c hc; cases hc)]
                    go_simp
                    refine hK _ _ ?_
                    clear hK K
                    try simp only [Act.put, List.setIfInBounds_toArray, List.set_cons_zero, List.set_cons_succ]
                    refine wpAnyIn_done (by kernel_rfl) ?_ _
                    gi_wp2
                    exact FIN.out w3 hM3 hKS
                  exact AllReadyIn.nil
                exact AllReadyIn.nil
              exact AllReadyIn.nil
            exact AllReadyIn.nil
          exact AllReadyIn.nil
        refine AllReadyIn.cons (o := _) rfl (fun K hK => ?_) ?_
        · rw [if_pos (by rfl)]
          refine ⟨fun _ _ => trivial, ?_⟩
          rw [Fence.inRound_round, Oper.semAt_some l' _ _ (by intro c hc; cases hc)]
          go_simp
          refine hK _ _ ?_
          clear hK K
          try simp only [Act.put, List.setIfInBounds_toArray, List.set_cons_zero, List.set_cons_succ]
          refine wpAnyIn_ready (rs := [0, 3]) (by kernel_rfl) (by simp) ?_
          refine AllReadyIn.cons (o := _) rfl (fun K hK => ?_) ?_
          · rw [if_pos (by rfl)]
            refine ⟨fun _ _ => trivial, ?_⟩
            rw [Fence.inRound_round, Oper.semAt_some l' _ _ (by intro c hc; cases hc)]
            go_simp
            refine hK _ _ ?_
            clear hK K
            try simp only [Act.put, List.setIfInBounds_toArray, List.set_cons_zero, List.set_cons_succ]
            refine wpAnyIn_ready (rs := [3]) (by kernel_rfl) (by simp) ?_
            refine AllReadyIn.cons (o := _) rfl (fun K hK => ?_) ?_
            · rw [if_pos (by rfl)]
              refine ⟨fun _ _ => trivial, ?_⟩
              rw [Fence.inRound_round, Oper.semAt_some l' _ _ (by intro c hc; cases hc)]
              go_simp
              refine hK _ _ ?_
              clear hK K
              try simp only [Act.put, List.setIfInBounds_toArray, List.set_cons_zero, List.set_cons_succ]
              refine wpAnyIn_ready (rs := [4]) (by kernel_rfl) (by simp) ?_
              refine AllReadyIn.cons (o := _) rfl (fun K hK => ?_) ?_
              · rw [if_pos (by rfl)]
                refine ⟨fun _ _ => trivial, ?_⟩
                rw [Fence.inRound_round, Oper.semAt_some l' _ _ (by intro c hc; cases hc)]
                go_simp
                refine hK _ _ ?_
                clear hK K
                try simp only [Act.put, List.setIfInBounds_toArray, List.set_cons_zero, List.set_cons_succ]
                refine wpAnyIn_ready (rs := [6]) (by kernel_rfl) (by simp) ?_
                refine AllReadyIn.cons (o := _) rfl (fun K hK => ?_) ?_
                · rw [if_pos (by rfl)]
                  refine ⟨fun _ _ => trivial, ?_⟩
                  rw [Fence.inRound_round, Oper.semAt_some l' _ _ (by intro c hc; cases hc)]
                  go_simp
                  refine hK _ _ ?_
                  clear hK K
                  try simp only [Act.put, List.setIfInBounds_toArray, List.set_cons_zero, List.set_cons_succ]
                  refine wpAnyIn_ready (rs := [7]) (by kernel_rfl) (by simp) ?_
                  refine AllReadyIn.cons (o := _) rfl (fun K hK => ?_) ?_
                  · rw [if_pos (by rfl)]
                    refine ⟨fun _ _ => trivial, ?_⟩
                    rw [Fence.inRound_round, Oper.semAt_some l' _ _ (by intro c hc; cases hc)]
                    go_simp
                    refine hK _ _ ?_
                    clear hK K
                    try simp only [Act.put, List.setIfInBounds_toArray, List.set_cons_zero, List.set_cons_succ]
                    refine wpAnyIn_ready (rs := [8]) (by kernel_rfl) (by simp) ?_
                    refine AllReadyIn.cons (o := _) rfl (fun K hK => ?_) AllReadyIn.nil
                    rw [if_pos (by rfl)]
                    refine ⟨fun _ _ => trivial, ?_⟩
                    rw [Fence.inRound_round, Oper.semAt_some l' _ _ (by intro c hc; cases hc)]
                    go_simp
                    refine ⟨rfl, HRR.out.mono ?_⟩
                    rintro e w3 ⟨rfl, hM3, hKS⟩
                    dsimp only
                    refine hK _ _ ?_
                    clear hK K
                    try simp only [Act.put, List.setIfInBounds_toArray, List.set_cons_zero, List.set_cons_succ]
                    refine wpAnyIn_ready (rs := [9]) (by kernel_rfl) (by simp) ?_
                    refine AllReadyIn.cons (o := _) rfl (fun K hK => ?_) AllReadyIn.nil
                    rw [if_pos (by rfl)]
                    refine ⟨fun _ _ => trivial, ?_⟩
                    rw [Fence.inRound_round, Oper.semAt_some l' _ _ (by intro c hc; cases hc)]
                    go_simp
                    refine hK _ _ ?_
                    clear hK K
                    try simp only [Act.put, List.setIfInBounds_toArray, List.set_cons_zero, List.set_cons_succ]
                    refine wpAnyIn_done (by kernel_rfl) ?_ _
                    gi_wp2
                    exact FIN.out w3 hM3 hKS
                  exact AllReadyIn.nil
                exact AllReadyIn.nil
              exact AllReadyIn.nil
            exact AllReadyIn.nil
          refine AllReadyIn.cons (o := _) rfl (fun K hK => ?_) ?_
          · rw [if_pos (by rfl)]
            refine ⟨fun _ _ => trivial, ?_⟩
            rw [Fence.inRound_round, Oper.semAt_some l' _ _ (by intro c hc; cases hc)]
            go_simp
            refine hK _ _ ?_
            clear hK K
            try simp only [Act.put, List.setIfInBounds_toArray, List.set_cons_zero, List.set_cons_succ]
            refine wpAnyIn_ready (rs := [0, 4]) (by kernel_rfl) (by simp) ?_
            refine AllReadyIn.cons (o := _) rfl (fun K hK => ?_) ?_
            · rw [if_pos (by rfl)]
              refine ⟨fun _ _ => trivial, ?_⟩
              rw [Fence.inRound_round, Oper.semAt_some l' _ _ (by intro c hc; cases hc)]
              go_simp
              refine hK _ _ ?_
              clear hK K
              try simp only [Act.put, List.setIfInBounds_toArray, List.set_cons_zero, List.set_cons_succ]
              refine wpAnyIn_ready (rs := [4]) (by kernel_rfl) (by simp) ?_
              refine AllReadyIn.cons (o := _) rfl (fun K hK => ?_) ?_
              · rw [if_pos (by rfl)]
                refine ⟨fun _ _ => trivial, ?_⟩
                rw [Fence.inRound_round, Oper.semAt_some l' _ _ (by intro c hc; cases hc)]
                go_simp
                refine hK _ _ ?_
                clear hK K
                try simp only [Act.put, List.setIfInBounds_toArray, List.set_cons_zero, List.set_cons_succ]
                refine wpAnyIn_ready (rs := [6]) (by kernel_rfl) (by simp) ?_
                refine AllReadyIn.cons (o := _) rfl (fun K hK => ?_) ?_
                · rw [if_pos (by rfl)]
                  refine ⟨fun _ _ => trivial, ?_⟩
                  rw [Fence.inRound_round, Oper.semAt_some l' _ _ (by intro c hc; cases hc)]
                  go_simp
                  refine hK _ _ ?_
                  clear hK K
                  try simp only [Act.put, List.setIfInBounds_toArray, List.set_cons_zero, List.set_cons_succ]
                  refine wpAnyIn_ready (rs := [7]) (by kernel_rfl) (by simp) ?_
                  refine AllReadyIn.cons (o := _) rfl (fun K hK => ?_) ?_
                  · rw [if_pos (by rfl)]
                    refine ⟨fun _ _ => trivial, ?_⟩
                    rw [Fence.inRound_round, Oper.semAt_some l' _ _ (by intro c hc; cases hc)]
                    go_simp
                    refine hK _ _ ?_
                    clear hK K
                    try simp only [Act.put, List.setIfInBounds_toArray, List.set_cons_zero, List.set_cons_succ]
                    refine wpAnyIn_ready (rs := [8]) (by kernel_rfl) (by simp) ?_
                    refine AllReadyIn.cons (o := _) rfl (fun K hK => ?_) AllReadyIn.nil
                    rw [if_pos (by rfl)]
                    refine ⟨fun _ _ => trivial, ?_⟩
                    rw [Fence.inRound_round, Oper.semAt_some l' _ _ (by intro c hc; cases hc)]
                    go_simp
                    refine ⟨rfl, HRR.out.mono ?_⟩
                    rintro e w3 ⟨rfl, hM3, hKS⟩
                    dsimp only
                    refine hK _ _ ?_
                    clear hK K
                    try simp only [Act.put, List.setIfInBounds_toArray, List.set_cons_zero, List.set_cons_succ]
                    refine wpAnyIn_ready (rs := [9]) (by kernel_rfl) (by simp) ?_
                    refine AllReadyIn.cons (o := _) rfl (fun K hK => ?_) AllReadyIn.nil
                    rw [if_pos (by rfl)]
                    refine ⟨fun _ _ => trivial, ?_⟩
                    rw [Fence.inRound_round, Oper.semAt_some l' _ _ (by intro c hc; cases hc)]
                    go_simp
                    refine hK _ _ ?_
                    clear hK K
                    try simp only [Act.put, List.setIfInBounds_toArray, List.set_cons_zero, List.set_cons_succ]
                    refine wpAnyIn_done (by kernel_rfl) ?_ _
                    gi_wp2
                    exact FIN.out w3 hM3 hKS
                  exact AllReadyIn.nil
                exact AllReadyIn.nil
              exact AllReadyIn.nil
            refine AllReadyIn.cons (o := _) rfl (fun K hK => ?_) ?_
            · rw [if_pos (by rfl)]
              refine ⟨fun _ _ => trivial, ?_⟩
              rw [Fence.inRound_round, Oper.semAt_some l' _ _ (by intro c hc; cases hc)]
              go_simp
              refine hK _ _ ?_
              clear hK K
              try simp only [Act.put, List.setIfInBounds_toArray, List.set_cons_zero, List.set_cons_succ]
              refine wpAnyIn_ready (rs := [0, 6]) (by kernel_rfl) (by simp) ?_
              refine AllReadyIn.cons (o := _) rfl (fun K hK => ?_) ?_
              · rw [if_pos (by rfl)]
                refine ⟨fun _ _ => trivial, ?_⟩
                rw [Fence.inRound_round, Oper.semAt_some l' _ _ (by intro c hc; cases hc)]
                go_simp
                refine hK _ _ ?_
                clear hK K
                try simp only [Act.put, List.setIfInBounds_toArray, List.set_cons_zero, List.set_cons_succ]
                refine wpAnyIn_ready (rs := [6]) (by kernel_rfl) (by simp) ?_
                refine AllReadyIn.cons (o := _) rfl (fun K hK => ?_) ?_
                · rw [if_pos (by rfl)]
                  refine ⟨fun _ _ => trivial, ?_⟩
                  rw [Fence.inRound_round, Oper.semAt_some l' _ _ (by intro c hc; cases hc)]
                  go_simp
                  refine hK _ _ ?_
                  clear hK K
                  try simp only [Act.put, List.setIfInBounds_toArray, List.set_cons_zero, List.set_cons_succ]
                  refine wpAnyIn_ready (rs := [7]) (by kernel_rfl) (by simp) ?_
                  refine AllReadyIn.cons (o := _) rfl (fun K hK => ?_) ?_
                  · rw [if_pos (by rfl)]
                    refine ⟨fun _ _ => trivial, ?_⟩
                    rw [Fence.inRound_round, Oper.semAt_some l' _ _ (by intro c hc; cases hc)]
                    go_simp
                    refine hK _ _ ?_
                    clear hK K
                    try simp only [Act.put, List.setIfInBounds_toArray, List.set_cons_zero, List.set_cons_succ]
                    refine wpAnyIn_ready (rs := [8]) (by kernel_rfl) (by simp) ?_
                    refine AllReadyIn.cons (o := _) rfl (fun K hK => ?_) AllReadyIn.nil
                    rw [if_pos (by rfl)]
                    refine ⟨fun _ _ => trivial, ?_⟩
                    rw [Fence.inRound_round, Oper.semAt_some l' _ _ (by intro c hc; cases hc)]
                    go_simp
                    refine ⟨rfl, HRR.out.mono ?_⟩
                    rintro e w3 ⟨rfl, hM3, hKS⟩
                    dsimp only
                    refine hK _ _ ?_
                    clear hK K
                    try simp only [Act.put, List.setIfInBounds_toArray, List.set_cons_zero, List.set_cons_succ]
                    refine wpAnyIn_ready (rs := [9]) (by kernel_rfl) (by simp) ?_
                    refine AllReadyIn.cons (o := _) rfl (fun K hK => ?_) AllReadyIn.nil
                    rw [if_pos (by rfl)]
                    refine ⟨fun _ _ => trivial, ?_⟩
                    rw [Fence.inRound_round, Oper.semAt_some l' _ _ (by intro c hc; cases hc)]
                    go_simp
                    refine hK _ _ ?_
                    clear hK K
                    try simp only [Act.put, List.setIfInBounds_toArray, List.set_cons_zero, List.set_cons_succ]
                    refine wpAnyIn_done (by kernel_rfl) ?_ _
                    gi_wp2
                    exact FIN.out w3 hM3 hKS
                  exact AllReadyIn.nil
                exact AllReadyIn.nil
              refine AllReadyIn.cons (o := _) rfl (fun K hK => ?_) ?_
              · rw [if_pos (by rfl)]
                refine ⟨fun _ _ => trivial, ?_⟩
                rw [Fence.inRound_round, Oper.semAt_some l' _ _ (by intro c hc; cases hc)]
                go_simp
                refine hK _ _ ?_
                clear hK K
                try simp only [Act.put, List.setIfInBounds_toArray, List.set_cons_zero, List.set_cons_succ]
                refine wpAnyIn_ready (rs := [0, 7]) (by kernel_rfl) (by simp) ?_
                refine AllReadyIn.cons (o := _) rfl (fun K hK => ?_) ?_
                · rw [if_pos (by rfl)]
                  refine ⟨fun _ _ => trivial, ?_⟩
                  rw [Fence.inRound_round, Oper.semAt_some l' _ _ (by intro c hc; cases hc)]
                  go_simp
                  refine hK _ _ ?_
                  clear hK K
                  try simp only [Act.put, List.setIfInBounds_toArray, List.set_cons_zero, List.set_cons_succ]
                  refine wpAnyIn_ready (rs := [7]) (by kernel_rfl) (by simp) ?_
                  refine AllReadyIn.cons (o := _) rfl (fun K hK => ?_) ?_
                  · rw [if_pos (by rfl)]
                    refine ⟨fun _ _ => trivial, ?_⟩
                    rw [Fence.inRound_round, Oper.semAt_some l' _ _ (by intro c hc; cases hc)]
                    go_simp
                    refine hK _ _ ?_
                    clear hK K
                    try simp only [Act.put, List.setIfInBounds_toArray, List.set_cons_zero, List.set_cons_succ]
                    refine wpAnyIn_ready (rs := [8]) (by kernel_rfl) (by simp) ?_
                    refine AllReadyIn.cons (o := _) rfl (fun K hK => ?_) AllReadyIn.nil
                    rw [if_pos (by rfl)]
                    refine ⟨fun _ _ => trivial, ?_⟩
                    rw [Fence.inRound_round, Oper.semAt_some l' _ _ (by intro c hc; cases hc)]
                    go_simp
                    refine ⟨rfl, HRR.out.mono ?_⟩
                    rintro e w3 ⟨rfl, hM3, hKS⟩
                    dsimp only
                    refine hK _ _ ?_
                    clear hK K
                    try simp only [Act.put, List.setIfInBounds_toArray, List.set_cons_zero, List.set_cons_succ]
                    refine wpAnyIn_ready (rs := [9]) (by kernel_rfl) (by simp) ?_
                    refine AllReadyIn.cons (o := _) rfl (fun K hK => ?_) AllReadyIn.nil
                    rw [if_pos (by rfl)]
                    refine ⟨fun _ _ => trivial, ?_⟩
                    rw [Fence.inRound_round, Oper.semAt_some l' _ _ (by intro c hc; cases hc)]
                    go_simp
                    refine hK _ _ ?_
                    clear hK K
                    try simp only [Act.put, List.setIfInBounds_toArray, List.set_cons_zero, List.set_cons_succ]
                    refine wpAnyIn_done (by kernel_rfl) ?_ _
                    gi_wp2
                    exact FIN.out w3 hM3 hKS
                  exact AllReadyIn.nil
                refine AllReadyIn.cons (o := _) rfl (fun K hK => ?_) ?_
                · rw [if_pos (by rfl)]
                  refine ⟨fun _ _ => trivial, ?_⟩
                  rw [Fence.inRound_round, Oper.semAt_some l' _ _ (by intro c hc; cases hc)]
                  go_simp
                  refine hK _ _ ?_
                  clear hK K
                  try simp only [Act.put, List.setIfInBounds_toArray, List.set_cons_zero, List.set_cons_succ]
                  refine wpAnyIn_ready (rs := [0]) (by kernel_rfl) (by simp) ?_
                  refine AllReadyIn.cons (o := _) rfl (fun K hK => ?_) ?_
                  · rw [if_pos (by rfl)]
                    refine ⟨fun _ _ => trivial, ?_⟩
                    rw [Fence.inRound_round, Oper.semAt_some l' _ _ (by intro c hc; cases hc)]
                    go_simp
                    refine hK _ _ ?_
                    clear hK K
                    try simp only [Act.put, List.setIfInBounds_toArray, List.set_cons_zero, List.set_cons_succ]
                    refine wpAnyIn_ready (rs := [8]) (by kernel_rfl) (by simp) ?_
                    refine AllReadyIn.cons (o := _) rfl (fun K hK => ?_) AllReadyIn.nil
                    rw [if_pos (by rfl)]
                    refine ⟨fun _ _ => trivial, ?_⟩
                    rw [Fence.inRound_round, Oper.semAt_some l' _ _ (by intro c hc; cases hc)]
                    go_simp
                    refine ⟨rfl, HRR.out.mono ?_⟩
                    rintro e w3 ⟨rfl, hM3, hKS⟩
                    dsimp only
                    refine hK _ _ ?_
                    clear hK K
                    try simp only [Act.put, List.setIfInBounds_toArray, List.set_cons_zero, List.set_cons_succ]
                    refine wpAnyIn_ready (rs := [9]) (by kernel_rfl) (by simp) ?_
                    refine AllReadyIn.cons (o := _) rfl (fun K hK => ?_) AllReadyIn.nil
                    rw [if_pos (by rfl)]
                    refine ⟨fun _ _ => trivial, ?_⟩
                    rw [Fence.inRound_round, Oper.semAt_some l' _ _ (by intro c hc; cases hc)]
                    go_simp
                    refine hK _ _ ?_
                    clear hK K
                    try simp only [Act.put, List.setIfInBounds_toArray, List.set_cons_zero, List.set_cons_succ]
                    refine wpAnyIn_done (by kernel_rfl) ?_ _
                    gi_wp2
                    exact FIN.out w3 hM3 hKS
                  exact AllReadyIn.nil
                exact AllReadyIn.nil
              exact AllReadyIn.nil
            exact AllReadyIn.nil
          exact AllReadyIn.nil
        exact AllReadyIn.nil
      exact AllReadyIn.nil
    exact AllReadyIn.nil
end Go.Proofs.Ytnjenggijmbhcaa
