/-
  Contracts of chapter 16: the pillow's methods made and check.
-/
import Derived.Test.YtaenafcecfdffaaVB5
namespace Go.Proofs.Ytaenafcecfdffaa
open Go.RowKit
set_option maxRecDepth 100000 in
set_option maxHeartbeats 400000 in
theorem madeC (g : Nat) (p : Int) (W : World) (hp : 0 < p) (h : W.cell? ⟨g, 0, none⟩ = some (.int .i64 p)) : Calls Try.prog 33 #[.pointer (some ⟨g, 0, none⟩)] W fun e w' => e = .returned (.bool true) ∧ W = w' := by
  go_enter Try.func33, Try.ntmps33
  go_wp2
  go_ret
  exact ⟨rfl, rfl⟩
def handL (h : Int) : List Wk := if 0 ≤ h then [⟨1, h, ⟨#[]⟩⟩] else []
/-- the error of a step on a pillow -/
def pilE (p s : Int) (z : Pil) (x : Wk) : Int :=
  if csE p s (handL z.hands ++ [x]) ≠ 0 then csE p s (handL z.hands ++ [x]) else if x.kind ≠ 1 ∧ z.works.length = 400 then 3 else 0
set_option maxRecDepth 100000 in
set_option maxHeartbeats 8000000 in
theorem checkC (B g : Nat) (p s : Int) (z : Pil) (S M V L X P : Value) (kd at_ : Int) (wd : ByteArray) (W : World) (h : PilH W B g p s z S M V L X P) (hwd : wd.size ≤ 9223372036854775807) :
    Calls Try.prog 34 #[.pointer (some ⟨g, 0, none⟩), .agg #[.int .i64 kd, .int .i64 at_, .string wd]] W fun e w' => e = .returned (.int .i64 (pilE p s z ⟨kd, at_, wd⟩)) ∧ Below W.heap.size W w' := by
  have o2 : W.ownsRow B 86 3 V z.works.length (wksCells z.works) := h.o 2 _ rfl
  obtain ⟨VA, vc, rfl⟩ := own_form o2
  clear o2
  have H1 := Lib.hid (RowsH.below h ((Below.refl W.heap.size W).alloc (Nat.le_refl _) (.cells #[.int .i64 kd, .int .i64 at_, .string wd] 35)))
  have K1 : Has (W.alloc (.cells #[.int .i64 kd, .int .i64 at_, .string wd] 35)) W.heap.size 35 [.int .i64 kd, .int .i64 at_, .string wd] := Has.new rfl
  have hgW := h.c.lt
  have a0 : W.cell? ⟨g, 0, none⟩ = some (.int .i64 p) := RowsH.cell h 0
  have a1 : W.cell? ⟨g, 1, none⟩ = some (.int .i64 s) := RowsH.cell h 1
  have a2 : W.cell? ⟨g, 2, none⟩ = some (.int .i64 z.hands) := RowsH.cell h 2
  have a5 : W.cell? ⟨g, 5, none⟩ = some (.slice VA z.works.length vc) := RowsH.cell h 5
  have F0 : Hid (∀ W', Below (W.heap.size + 1) (W.alloc (.cells #[.int .i64 kd, .int .i64 at_, .string wd] 35)) W' → W'.cell? ⟨g, 0, none⟩ = some (.int .i64 p) ∧ W'.cell? ⟨g, 1, none⟩ = some (.int .i64 s) ∧ W'.cell? ⟨W.heap.size, 0, none⟩ = some (.int .i64 kd) ∧ W'.cell? ⟨W.heap.size, 1, none⟩ = some (.int .i64 at_) ∧ W'.cell? ⟨W.heap.size, 2, none⟩ = some (.string wd) ∧ W'.cell? ⟨g, 5, none⟩ = some (.slice VA z.works.length vc)) := fun W' hb =>
    ⟨(hb.cell (p := ⟨g, 0, none⟩) (by show g < _; omega)).trans (RowsH.cell H1.out 0), (hb.cell (p := ⟨g, 1, none⟩) (by show g < _; omega)).trans (RowsH.cell H1.out 1), (hb.cell (p := ⟨W.heap.size, 0, none⟩) (Nat.lt_succ_self _)).trans (K1.cell 0), (hb.cell (p := ⟨W.heap.size, 1, none⟩) (Nat.lt_succ_self _)).trans (K1.cell 1), (hb.cell (p := ⟨W.heap.size, 2, none⟩) (Nat.lt_succ_self _)).trans (K1.cell 2), (hb.cell (p := ⟨g, 5, none⟩) (by show g < _; omega)).trans (RowsH.cell H1.out 5)⟩
  have HPE : Hid (pilE p s z ⟨kd, at_, wd⟩ = if csE p s (handL z.hands ++ [⟨kd, at_, wd⟩]) ≠ 0 then csE p s (handL z.hands ++ [⟨kd, at_, wd⟩]) else if kd ≠ 1 ∧ z.works.length = 400 then 3 else 0) := rfl
  clear h K1 H1
  by_cases h0 : 0 ≤ z.hands
  · rw [show handL z.hands = [⟨1, z.hands, ⟨#[]⟩⟩] from if_pos h0] at HPE
    obtain ⟨er, her⟩ : ∃ er, er = csE p s ([⟨1, z.hands, ⟨#[]⟩⟩] ++ [⟨kd, at_, wd⟩]) := ⟨_, rfl⟩
    rw [← her] at HPE
    have HER := Lib.hid her
    clear her
    have HWS : Hid (∀ x ∈ ([⟨1, z.hands, ⟨#[]⟩⟩] : List Wk) ++ [⟨kd, at_, wd⟩], x.word.size ≤ 9223372036854775807) := fun x hx => by
      rcases List.mem_append.1 hx with hx | hx
      · rw [List.mem_singleton.1 hx]; exact Nat.zero_le _
      · rw [List.mem_singleton.1 hx]; exact hwd
    go_enter Try.func34, Try.ntmps34
    go_wp2_with (at_builtin; refine wpList_app rfl (.tmp 14) (.tmp 20) _ rfl (W.heap.size + 1) 35 (.agg #[.int .i64 0, .int .i64 0, .string ⟨#[]⟩]) 3 32 Try.underlying25 infoCs rfl (by omega) (by omega) (.slice none 0 0) _ _ rfl (World.ownsRow_nil _ _ _ _) (W.heap.size + 1) (wkCells ⟨1, z.hands, ⟨#[]⟩⟩) rfl rfl (fun j u hu => by have := news_wk (W.alloc (.cells #[.int .i64 kd, .int .i64 at_, .string wd] 35)) ⟨1, z.hands, ⟨#[]⟩⟩ 35 j u hu; rw [World.size_alloc] at this; exact this) (one_wk _) (by omega) (by simp) ?_; intro g1 cap1 W0 hg1 hown1 hgrow1 hor1)
    have Bx : Below (W.heap.size + 1) (W.alloc (.cells #[.int .i64 kd, .int .i64 at_, .string wd] 35)) W0 := ((Below.refl _ _).alloc (by simp) _).grown hgrow1 (by simp) (fun k hk => by simp [Value.ownBlock] at hk)
    have F := Lib.hid (fun W' hb => F0.out W' (Bx.trans hb))
    have z0 : W.heap.size + 1 ≤ W0.heap.size := by have := Bx.size; simpa using this
    have K0 : Below W.heap.size W W0 := bvia (show Below W.heap.size W (W.alloc (.cells #[.int .i64 kd, .int .i64 at_, .string wd] 35)) by go_grown) (Bx.mono (by simp))
    have OO := Lib.hid hown1
    clear Bx F0 hown1 hgrow1 a0 a1 a2 a5
    refine wp_region_noPanic ?_
    refine wp_region_B (fun b w' => w'.cell? ⟨g, 0, none⟩ = some (.int .i64 p) ∧ w'.cell? ⟨g, 1, none⟩ = some (.int .i64 s) ∧ w'.cell? ⟨W.heap.size, 0, none⟩ = some (.int .i64 kd) ∧ w'.cell? ⟨W.heap.size, 1, none⟩ = some (.int .i64 at_) ∧ w'.cell? ⟨W.heap.size, 2, none⟩ = some (.string wd) ∧ (b = false → True)) 20 (by kernel_rfl) ?_
    have Bd : Below (W.heap.size + 1) W0 W0.drew := (Below.refl _ _).drew
    have od : W0.drew.ownsRow (W.heap.size + 1) 35 3 (.slice (some ⟨g1, 0, none⟩) 1 cap1) 1 (wksCells [⟨1, z.hands, ⟨#[]⟩⟩]) := OO.out
    have zd : W.heap.size + 1 ≤ W0.drew.heap.size := z0
    generalize W0.drew = Wd at *
    refine wpAnyB_take (i := 0) (oi := _) (v := ?vvta1) (fun w' => w'.cell? ⟨g, 0, none⟩ = some (.int .i64 p) ∧ w'.cell? ⟨g, 1, none⟩ = some (.int .i64 s) ∧ w'.cell? ⟨W.heap.size, 0, none⟩ = some (.int .i64 kd) ∧ w'.cell? ⟨W.heap.size, 1, none⟩ = some (.int .i64 at_) ∧ w'.cell? ⟨W.heap.size, 2, none⟩ = some (.string wd)) rfl (by kernel_rfl) (by kernel_rfl) (by kernel_rfl) (by kernel_rfl) (by rfl) (fun _ h => ⟨h.1, h.2.1, h.2.2.1, h.2.2.2.1, h.2.2.2.2.1⟩) (.inl fun _ h => ⟨h.1, h.2.1, h.2.2.1, h.2.2.2.1, h.2.2.2.2.1⟩) (fun _ _ _ h => h) (.inl ⟨by rfl, ?hyta1⟩) ⟨(F.out _ Bd).1, (F.out _ Bd).2.1, (F.out _ Bd).2.2.1, (F.out _ Bd).2.2.2.1, (F.out _ Bd).2.2.2.2.1, fun _ => trivial⟩ ?_
    case hyta1 =>
      intro w' hSw
      try dsimp only at hSw
      go_simp
      all_goals with_reducible rfl
    try simp only [Act.put, List.setIfInBounds_toArray]
    refine wpAnyB_take (i := 1) (oi := _) (v := ?vvta2) (fun w' => w'.cell? ⟨g, 0, none⟩ = some (.int .i64 p) ∧ w'.cell? ⟨g, 1, none⟩ = some (.int .i64 s) ∧ w'.cell? ⟨W.heap.size, 0, none⟩ = some (.int .i64 kd) ∧ w'.cell? ⟨W.heap.size, 1, none⟩ = some (.int .i64 at_) ∧ w'.cell? ⟨W.heap.size, 2, none⟩ = some (.string wd)) rfl (by kernel_rfl) (by kernel_rfl) (by kernel_rfl) (by kernel_rfl) (by rfl) (fun _ h => ⟨h.1, h.2.1, h.2.2.1, h.2.2.2.1, h.2.2.2.2.1⟩) (.inl fun _ h => ⟨h.1, h.2.1, h.2.2.1, h.2.2.2.1, h.2.2.2.2.1⟩) (fun _ _ _ h => h) (.inl ⟨by rfl, ?hyta2⟩) ⟨(F.out _ Bd).1, (F.out _ Bd).2.1, (F.out _ Bd).2.2.1, (F.out _ Bd).2.2.2.1, (F.out _ Bd).2.2.2.2.1, fun _ => trivial⟩ ?_
    case hyta2 =>
      intro w' hSw
      try dsimp only at hSw
      go_simp
      all_goals with_reducible rfl
    try simp only [Act.put]
    refine wpAnyB_take (i := 2) (oi := _) (v := ?vvta3) (fun w' => w'.cell? ⟨g, 0, none⟩ = some (.int .i64 p) ∧ w'.cell? ⟨g, 1, none⟩ = some (.int .i64 s) ∧ w'.cell? ⟨W.heap.size, 0, none⟩ = some (.int .i64 kd) ∧ w'.cell? ⟨W.heap.size, 1, none⟩ = some (.int .i64 at_) ∧ w'.cell? ⟨W.heap.size, 2, none⟩ = some (.string wd)) rfl (by kernel_rfl) (by kernel_rfl) (by kernel_rfl) (by kernel_rfl) (by rfl) (fun _ h => ⟨h.1, h.2.1, h.2.2.1, h.2.2.2.1, h.2.2.2.2.1⟩) (.inl fun _ h => ⟨h.1, h.2.1, h.2.2.1, h.2.2.2.1, h.2.2.2.2.1⟩) (fun _ _ _ h => h) (.inl ⟨by rfl, ?hyta3⟩) ⟨(F.out _ Bd).1, (F.out _ Bd).2.1, (F.out _ Bd).2.2.1, (F.out _ Bd).2.2.2.1, (F.out _ Bd).2.2.2.2.1, fun _ => trivial⟩ ?_
    case hyta3 =>
      intro w' hSw
      try dsimp only at hSw
      go_simp
      all_goals with_reducible rfl
    try simp only [Act.put]
    refine wpAnyB_take (i := 3) (oi := _) (v := ?vvta4) (fun w' => w'.cell? ⟨g, 0, none⟩ = some (.int .i64 p) ∧ w'.cell? ⟨g, 1, none⟩ = some (.int .i64 s) ∧ w'.cell? ⟨W.heap.size, 0, none⟩ = some (.int .i64 kd) ∧ w'.cell? ⟨W.heap.size, 1, none⟩ = some (.int .i64 at_) ∧ w'.cell? ⟨W.heap.size, 2, none⟩ = some (.string wd)) rfl (by kernel_rfl) (by kernel_rfl) (by kernel_rfl) (by kernel_rfl) (by rfl) (fun _ h => ⟨h.1, h.2.1, h.2.2.1, h.2.2.2.1, h.2.2.2.2.1⟩) (.inl fun _ h => ⟨h.1, h.2.1, h.2.2.1, h.2.2.2.1, h.2.2.2.2.1⟩) (fun _ _ _ h => h) (.inl ⟨by rfl, ?hyta4⟩) ⟨(F.out _ Bd).1, (F.out _ Bd).2.1, (F.out _ Bd).2.2.1, (F.out _ Bd).2.2.2.1, (F.out _ Bd).2.2.2.2.1, fun _ => trivial⟩ ?_
    case hyta4 =>
      intro w' hSw
      try dsimp only at hSw
      go_simp
      all_goals with_reducible rfl
    try simp only [Act.put]
    refine wpAnyB_take (i := 4) (oi := _) (v := ?vvta5) (fun w' => w'.cell? ⟨g, 0, none⟩ = some (.int .i64 p) ∧ w'.cell? ⟨g, 1, none⟩ = some (.int .i64 s) ∧ w'.cell? ⟨W.heap.size, 0, none⟩ = some (.int .i64 kd) ∧ w'.cell? ⟨W.heap.size, 1, none⟩ = some (.int .i64 at_) ∧ w'.cell? ⟨W.heap.size, 2, none⟩ = some (.string wd)) rfl (by kernel_rfl) (by kernel_rfl) (by kernel_rfl) (by kernel_rfl) (by rfl) (fun _ h => ⟨h.1, h.2.1, h.2.2.1, h.2.2.2.1, h.2.2.2.2.1⟩) (.inl fun _ h => ⟨h.1, h.2.1, h.2.2.1, h.2.2.2.1, h.2.2.2.2.1⟩) (fun _ _ _ h => h) (.inl ⟨by rfl, ?hyta5⟩) ⟨(F.out _ Bd).1, (F.out _ Bd).2.1, (F.out _ Bd).2.2.1, (F.out _ Bd).2.2.2.1, (F.out _ Bd).2.2.2.2.1, fun _ => trivial⟩ ?_
    case hyta5 =>
      intro w' hSw
      try dsimp only at hSw
      go_simp
      all_goals with_reducible rfl
    try simp only [Act.put]
    refine wpAnyB_take (i := 5) (oi := _) (v := ?vvta6) (fun w' => w'.cell? ⟨g, 0, none⟩ = some (.int .i64 p) ∧ w'.cell? ⟨g, 1, none⟩ = some (.int .i64 s) ∧ w'.cell? ⟨W.heap.size, 0, none⟩ = some (.int .i64 kd) ∧ w'.cell? ⟨W.heap.size, 1, none⟩ = some (.int .i64 at_) ∧ w'.cell? ⟨W.heap.size, 2, none⟩ = some (.string wd)) rfl (by kernel_rfl) (by kernel_rfl) (by kernel_rfl) (by kernel_rfl) (by rfl) (fun _ h => ⟨h.1, h.2.1, h.2.2.1, h.2.2.2.1, h.2.2.2.2.1⟩) (.inl fun _ h => ⟨h.1, h.2.1, h.2.2.1, h.2.2.2.1, h.2.2.2.2.1⟩) (fun _ _ _ h => h) (.inl ⟨by rfl, ?hyta6⟩) ⟨(F.out _ Bd).1, (F.out _ Bd).2.1, (F.out _ Bd).2.2.1, (F.out _ Bd).2.2.2.1, (F.out _ Bd).2.2.2.2.1, fun _ => trivial⟩ ?_
    case hyta6 =>
      intro w' hSw
      try dsimp only at hSw
      go_simp
      all_goals with_reducible rfl
    try simp only [Act.put]
    refine wpAnyB_take (i := 6) (oi := _) (v := ?vvta7) (fun w' => w'.cell? ⟨g, 0, none⟩ = some (.int .i64 p) ∧ w'.cell? ⟨g, 1, none⟩ = some (.int .i64 s) ∧ w'.cell? ⟨W.heap.size, 0, none⟩ = some (.int .i64 kd) ∧ w'.cell? ⟨W.heap.size, 1, none⟩ = some (.int .i64 at_) ∧ w'.cell? ⟨W.heap.size, 2, none⟩ = some (.string wd)) rfl (by kernel_rfl) (by kernel_rfl) (by kernel_rfl) (by kernel_rfl) (by rfl) (fun _ h => ⟨h.1, h.2.1, h.2.2.1, h.2.2.2.1, h.2.2.2.2.1⟩) (.inl fun _ h => ⟨h.1, h.2.1, h.2.2.1, h.2.2.2.1, h.2.2.2.2.1⟩) (fun _ _ _ h => h) (.inl ⟨by rfl, ?hyta7⟩) ⟨(F.out _ Bd).1, (F.out _ Bd).2.1, (F.out _ Bd).2.2.1, (F.out _ Bd).2.2.2.1, (F.out _ Bd).2.2.2.2.1, fun _ => trivial⟩ ?_
    case hyta7 =>
      intro w' hSw
      try dsimp only at hSw
      go_simp
      all_goals with_reducible rfl
    try simp only [Act.put]
    refine wpAnyB_take (i := 7) (oi := _) (v := ?vvta8) (fun w' => w'.cell? ⟨g, 0, none⟩ = some (.int .i64 p) ∧ w'.cell? ⟨g, 1, none⟩ = some (.int .i64 s) ∧ w'.cell? ⟨W.heap.size, 0, none⟩ = some (.int .i64 kd) ∧ w'.cell? ⟨W.heap.size, 1, none⟩ = some (.int .i64 at_) ∧ w'.cell? ⟨W.heap.size, 2, none⟩ = some (.string wd)) rfl (by kernel_rfl) (by kernel_rfl) (by kernel_rfl) (by kernel_rfl) (by rfl) (fun _ h => ⟨h.1, h.2.1, h.2.2.1, h.2.2.2.1, h.2.2.2.2.1⟩) (.inl fun _ h => ⟨h.1, h.2.1, h.2.2.1, h.2.2.2.1, h.2.2.2.2.1⟩) (fun _ _ _ h => h) (.inl ⟨by rfl, ?hyta8⟩) ⟨(F.out _ Bd).1, (F.out _ Bd).2.1, (F.out _ Bd).2.2.1, (F.out _ Bd).2.2.2.1, (F.out _ Bd).2.2.2.2.1, fun _ => trivial⟩ ?_
    case hyta8 =>
      intro w' hSw
      try dsimp only at hSw
      go_simp
      all_goals with_reducible rfl
    try simp only [Act.put]
    refine wpAnyB_take (i := 8) (oi := _) (v := ?vvta9) (fun w' => w'.cell? ⟨g, 0, none⟩ = some (.int .i64 p) ∧ w'.cell? ⟨g, 1, none⟩ = some (.int .i64 s) ∧ w'.cell? ⟨W.heap.size, 0, none⟩ = some (.int .i64 kd) ∧ w'.cell? ⟨W.heap.size, 1, none⟩ = some (.int .i64 at_) ∧ w'.cell? ⟨W.heap.size, 2, none⟩ = some (.string wd)) rfl (by kernel_rfl) (by kernel_rfl) (by kernel_rfl) (by kernel_rfl) (by rfl) (fun _ h => ⟨h.1, h.2.1, h.2.2.1, h.2.2.2.1, h.2.2.2.2.1⟩) (.inl fun _ h => ⟨h.1, h.2.1, h.2.2.1, h.2.2.2.1, h.2.2.2.2.1⟩) (fun _ _ _ h => h) (.inl ⟨by rfl, ?hyta9⟩) ⟨(F.out _ Bd).1, (F.out _ Bd).2.1, (F.out _ Bd).2.2.1, (F.out _ Bd).2.2.2.1, (F.out _ Bd).2.2.2.2.1, fun _ => trivial⟩ ?_
    case hyta9 =>
      intro w' hSw
      try dsimp only at hSw
      go_simp
      all_goals with_reducible rfl
    try simp only [Act.put]
    refine wpAnyB_take (i := 9) (oi := _) (v := ?vvta10) (fun w' => w'.cell? ⟨g, 0, none⟩ = some (.int .i64 p) ∧ w'.cell? ⟨g, 1, none⟩ = some (.int .i64 s) ∧ w'.cell? ⟨W.heap.size, 0, none⟩ = some (.int .i64 kd) ∧ w'.cell? ⟨W.heap.size, 1, none⟩ = some (.int .i64 at_) ∧ w'.cell? ⟨W.heap.size, 2, none⟩ = some (.string wd)) rfl (by kernel_rfl) (by kernel_rfl) (by kernel_rfl) (by kernel_rfl) (by rfl) (fun _ h => ⟨h.1, h.2.1, h.2.2.1, h.2.2.2.1, h.2.2.2.2.1⟩) (.inl fun _ h => ⟨h.1, h.2.1, h.2.2.1, h.2.2.2.1, h.2.2.2.2.1⟩) (fun _ _ _ h => h) (.inl ⟨by rfl, ?hyta10⟩) ⟨(F.out _ Bd).1, (F.out _ Bd).2.1, (F.out _ Bd).2.2.1, (F.out _ Bd).2.2.2.1, (F.out _ Bd).2.2.2.2.1, fun _ => trivial⟩ ?_
    case hyta10 =>
      intro w' hSw
      try dsimp only at hSw
      go_simp
      all_goals with_reducible rfl
    try simp only [Act.put]
    refine wpAnyB_two (i := 10) (j := 17) false rfl rfl (by kernel_rfl) (by kernel_rfl) (by kernel_rfl) ?_ ?_
    · intro KK hKK
      go_simp
      have Ba11 := Bd.alloc zd (.cells #[.int .i64 kd, .int .i64 at_, .string wd] 35)
      have za12 : W.heap.size + 1 ≤ (Wd.alloc (.cells #[.int .i64 kd, .int .i64 at_, .string wd] 35)).heap.size := by simp; omega
      have oa13 := own_below od ((Below.refl Wd.heap.size Wd).alloc (Nat.le_refl _) (.cells #[.int .i64 kd, .int .i64 at_, .string wd] 35))
      have Na16 : Wd.heap.size < (Wd.alloc (.cells #[.int .i64 kd, .int .i64 at_, .string wd] 35)).heap.size ∧ ∀ p u, ([.int .i64 kd, .int .i64 at_, .string wd] : List Value)[p]? = some u → (Wd.alloc (.cells #[.int .i64 kd, .int .i64 at_, .string wd] 35)).cell? ⟨Wd.heap.size, p, none⟩ = some u := ⟨by simp, fun p u hu => ((Has.new (w := Wd) (t := 35) (cs := [.int .i64 kd, .int .i64 at_, .string wd]) rfl).cell p).trans hu⟩
      generalize (Wd.alloc (.cells #[.int .i64 kd, .int .i64 at_, .string wd] 35)) = Wa15 at *
      refine hKK.out _ _ ⟨(F.out _ Ba11).1, (F.out _ Ba11).2.1, (F.out _ Ba11).2.2.1, (F.out _ Ba11).2.2.2.1, (F.out _ Ba11).2.2.2.2.1, fun _ => trivial⟩ ?_
      clear hKK KK
      try simp only [Act.put, List.setIfInBounds_toArray, List.set_cons_zero, List.set_cons_succ]
      refine wpAnyB_two (i := 11) (j := 17) false rfl rfl (by kernel_rfl) (by kernel_rfl) (by kernel_rfl) ?_ ?_
      · intro KK hKK
        refine step_appN rfl (.tmp 31) (.tmp 33) 25 rfl (W.heap.size + 1) 35 (.agg #[.int .i64 0, .int .i64 0, .string ⟨#[]⟩]) 3 32 Try.underlying25 infoCs rfl (by omega) (by omega) (.slice (some ⟨g1, 0, none⟩) 1 cap1) 1 (wksCells [⟨1, z.hands, ⟨#[]⟩⟩]) rfl oa13 ⟨Wd.heap.size, 0, none⟩ 1 1 [.int .i64 kd, .int .i64 at_, .string wd] rfl rfl (fun j u hu => by rw [Addr.add_lit, Nat.zero_add]; exact Na16.2 j u hu) (by simp [Value.oneCell']) (by omega) (by omega) ?_
        intro v' Wa26 oa24 hgrow4 hnil4 hor4
        obtain ⟨A4, c4, rfl⟩ := own_form oa24
        have za23 := Nat.le_trans za12 hgrow4.size
        have Ba22 := Ba11.grown hgrow4 za12 (fun k hk => (oa13.lt k hk).1)
        refine hKK.out _ _ ⟨(F.out _ Ba22).1, (F.out _ Ba22).2.1, (F.out _ Ba22).2.2.1, (F.out _ Ba22).2.2.2.1, (F.out _ Ba22).2.2.2.2.1, fun _ => trivial⟩ ?_
        clear hKK KK
        try simp only [Act.put, List.setIfInBounds_toArray]
        refine wpAnyB_two (i := 12) (j := 17) false rfl rfl (by kernel_rfl) (by kernel_rfl) (by kernel_rfl) ?_ ?_
        · intro KK hKK
          have CS := csheet p s A4 (1 + 1) c4 ([⟨1, z.hands, ⟨#[]⟩⟩] ++ [⟨kd, at_, wd⟩]) Wa26 (by decide) (own_rdW (by rw [wksCells_app]; exact oa24)) rfl HWS.out
          rw [← HER.out] at CS
          go_simp
          go_at_call 32
          refine CS.mono ?_
          rintro e Wa37 ⟨p5, A5, n5, c5, b5, rfl, hb5⟩
          have Ba33 := Ba22.trans (hb5.mono za23)
          have za34 := Nat.le_trans za23 hb5.size
          refine hKK.out _ _ ⟨(F.out _ Ba33).1, (F.out _ Ba33).2.1, (F.out _ Ba33).2.2.1, (F.out _ Ba33).2.2.2.1, (F.out _ Ba33).2.2.2.2.1, fun _ => trivial⟩ ?_
          clear hKK KK
          try simp only [Act.put, List.setIfInBounds_toArray, List.set_cons_zero, List.set_cons_succ]
          refine wpAnyB_take (i := 13) (oi := _) (v := ?vvta43) (fun w' => w'.cell? ⟨g, 0, none⟩ = some (.int .i64 p) ∧ w'.cell? ⟨g, 1, none⟩ = some (.int .i64 s) ∧ w'.cell? ⟨W.heap.size, 0, none⟩ = some (.int .i64 kd) ∧ w'.cell? ⟨W.heap.size, 1, none⟩ = some (.int .i64 at_) ∧ w'.cell? ⟨W.heap.size, 2, none⟩ = some (.string wd)) rfl (by kernel_rfl) (by kernel_rfl) (by kernel_rfl) (by kernel_rfl) (by rfl) (fun _ h => ⟨h.1, h.2.1, h.2.2.1, h.2.2.2.1, h.2.2.2.2.1⟩) (.inl fun _ h => ⟨h.1, h.2.1, h.2.2.1, h.2.2.2.1, h.2.2.2.2.1⟩) (fun _ _ _ h => h) (.inl ⟨by rfl, ?hyta43⟩) ⟨(F.out _ Ba33).1, (F.out _ Ba33).2.1, (F.out _ Ba33).2.2.1, (F.out _ Ba33).2.2.2.1, (F.out _ Ba33).2.2.2.2.1, fun _ => trivial⟩ ?_
          case hyta43 =>
            intro w' hSw
            try dsimp only at hSw
            go_simp
            all_goals with_reducible rfl
          try simp only [Act.put, List.setIfInBounds_toArray]
          refine wpAnyB_take (i := 14) (oi := _) (v := ?vvta44) (fun w' => w'.cell? ⟨g, 0, none⟩ = some (.int .i64 p) ∧ w'.cell? ⟨g, 1, none⟩ = some (.int .i64 s) ∧ w'.cell? ⟨W.heap.size, 0, none⟩ = some (.int .i64 kd) ∧ w'.cell? ⟨W.heap.size, 1, none⟩ = some (.int .i64 at_) ∧ w'.cell? ⟨W.heap.size, 2, none⟩ = some (.string wd)) rfl (by kernel_rfl) (by kernel_rfl) (by kernel_rfl) (by kernel_rfl) (by rfl) (fun _ h => ⟨h.1, h.2.1, h.2.2.1, h.2.2.2.1, h.2.2.2.2.1⟩) (.inl fun _ h => ⟨h.1, h.2.1, h.2.2.1, h.2.2.2.1, h.2.2.2.2.1⟩) (fun _ _ _ h => h) (.inl ⟨by rfl, ?hyta44⟩) ⟨(F.out _ Ba33).1, (F.out _ Ba33).2.1, (F.out _ Ba33).2.2.1, (F.out _ Ba33).2.2.2.1, (F.out _ Ba33).2.2.2.2.1, fun _ => trivial⟩ ?_
          case hyta44 =>
            intro w' hSw
            try dsimp only at hSw
            go_simp
            all_goals with_reducible rfl
          try simp only [Act.put]
          refine wpAnyB_take (i := 15) (oi := _) (v := ?vvta45) (fun w' => w'.cell? ⟨g, 0, none⟩ = some (.int .i64 p) ∧ w'.cell? ⟨g, 1, none⟩ = some (.int .i64 s) ∧ w'.cell? ⟨W.heap.size, 0, none⟩ = some (.int .i64 kd) ∧ w'.cell? ⟨W.heap.size, 1, none⟩ = some (.int .i64 at_) ∧ w'.cell? ⟨W.heap.size, 2, none⟩ = some (.string wd)) rfl (by kernel_rfl) (by kernel_rfl) (by kernel_rfl) (by kernel_rfl) (by rfl) (fun _ h => ⟨h.1, h.2.1, h.2.2.1, h.2.2.2.1, h.2.2.2.2.1⟩) (.inl fun _ h => ⟨h.1, h.2.1, h.2.2.1, h.2.2.2.1, h.2.2.2.2.1⟩) (fun _ _ _ h => h) (.inl ⟨by rfl, ?hyta45⟩) ⟨(F.out _ Ba33).1, (F.out _ Ba33).2.1, (F.out _ Ba33).2.2.1, (F.out _ Ba33).2.2.2.1, (F.out _ Ba33).2.2.2.2.1, fun _ => trivial⟩ ?_
          case hyta45 =>
            intro w' hSw
            try dsimp only at hSw
            go_simp
            all_goals with_reducible rfl
          try simp only [Act.put]
          refine wpAnyB_take (i := 16) (oi := _) (v := ?vvta46) (fun w' => w'.cell? ⟨g, 0, none⟩ = some (.int .i64 p) ∧ w'.cell? ⟨g, 1, none⟩ = some (.int .i64 s) ∧ w'.cell? ⟨W.heap.size, 0, none⟩ = some (.int .i64 kd) ∧ w'.cell? ⟨W.heap.size, 1, none⟩ = some (.int .i64 at_) ∧ w'.cell? ⟨W.heap.size, 2, none⟩ = some (.string wd)) rfl (by kernel_rfl) (by kernel_rfl) (by kernel_rfl) (by kernel_rfl) (by rfl) (fun _ h => ⟨h.1, h.2.1, h.2.2.1, h.2.2.2.1, h.2.2.2.2.1⟩) (.inl fun _ h => ⟨h.1, h.2.1, h.2.2.1, h.2.2.2.1, h.2.2.2.2.1⟩) (fun _ _ _ h => h) (.inl ⟨by rfl, ?hyta46⟩) ⟨(F.out _ Ba33).1, (F.out _ Ba33).2.1, (F.out _ Ba33).2.2.1, (F.out _ Ba33).2.2.2.1, (F.out _ Ba33).2.2.2.2.1, fun _ => trivial⟩ ?_
          case hyta46 =>
            intro w' hSw
            try dsimp only at hSw
            go_simp
            all_goals with_reducible rfl
          try simp only [Act.put]
          refine wpAnyB_one (i := 17) false rfl (by kernel_rfl) (by kernel_rfl) ?_
          intro KK hKK
          go_simp
          have Ba47 := Ba33.alloc za34 (.cells #[.int .i64 0, .slice none 0 0] 24)
          have za48 : W.heap.size + 1 ≤ (Wa37.alloc (.cells #[.int .i64 0, .slice none 0 0] 24)).heap.size := by simp; omega
          have Ka50 : Has (Wa37.alloc (.cells #[.int .i64 0, .slice none 0 0] 24)) Wa37.heap.size 24 [.int .i64 0, .slice none 0 0] := Has.new rfl
          generalize (Wa37.alloc (.cells #[.int .i64 0, .slice none 0 0] 24)) = Wa51 at *
          refine hKK.out _ _ ⟨(F.out _ Ba47).1, (F.out _ Ba47).2.1, (F.out _ Ba47).2.2.1, (F.out _ Ba47).2.2.2.1, (F.out _ Ba47).2.2.2.2.1, fun _ => trivial⟩ ?_
          clear hKK KK
          try simp only [Act.put, List.setIfInBounds_toArray, List.set_cons_zero, List.set_cons_succ]
          refine wpAnyB_one (i := 18) false rfl (by kernel_rfl) (by kernel_rfl) ?_
          intro KK hKK
          have k0 := Ka50.cell 0
          have k1 := Ka50.cell 1
          have f0 := Ka50.free 0
          have f1 := Ka50.free 1
          have q8 := Ka50.lt
          go_simp
          have Ba52 := (Ba47.setCell (p := ⟨Wa37.heap.size, 0, none⟩) (by show _ ≤ Wa37.heap.size; omega) (.int .i64 p5)).setCell (p := ⟨Wa37.heap.size, 1, none⟩) (by show _ ≤ Wa37.heap.size; omega) (.slice A5 n5 c5)
          generalize ((Wa51.setCell ⟨Wa37.heap.size, 0, none⟩ (.int .i64 p5)).setCell ⟨Wa37.heap.size, 1, none⟩ (.slice A5 n5 c5)) = w6 at *
          refine hKK.out _ _ ⟨(F.out _ Ba52).1, (F.out _ Ba52).2.1, (F.out _ Ba52).2.2.1, (F.out _ Ba52).2.2.2.1, (F.out _ Ba52).2.2.2.2.1, fun _ => trivial⟩ ?_
          clear hKK KK
          try simp only [Act.put, List.setIfInBounds_toArray, List.set_cons_zero, List.set_cons_succ]
          refine wpAnyB_take (i := 19) (oi := _) (v := ?vvta53) (fun w' => w'.cell? ⟨g, 0, none⟩ = some (.int .i64 p) ∧ w'.cell? ⟨g, 1, none⟩ = some (.int .i64 s) ∧ w'.cell? ⟨W.heap.size, 0, none⟩ = some (.int .i64 kd) ∧ w'.cell? ⟨W.heap.size, 1, none⟩ = some (.int .i64 at_) ∧ w'.cell? ⟨W.heap.size, 2, none⟩ = some (.string wd)) rfl (by kernel_rfl) (by kernel_rfl) (by kernel_rfl) (by kernel_rfl) (by rfl) (fun _ h => ⟨h.1, h.2.1, h.2.2.1, h.2.2.2.1, h.2.2.2.2.1⟩) (.inl fun _ h => ⟨h.1, h.2.1, h.2.2.1, h.2.2.2.1, h.2.2.2.2.1⟩) (fun _ _ _ h => h) (.inl ⟨by rfl, ?hyta53⟩) ⟨(F.out _ Ba52).1, (F.out _ Ba52).2.1, (F.out _ Ba52).2.2.1, (F.out _ Ba52).2.2.2.1, (F.out _ Ba52).2.2.2.2.1, fun _ => trivial⟩ ?_
          case hyta53 =>
            intro w' hSw
            try dsimp only at hSw
            go_simp
            all_goals with_reducible rfl
          try simp only [Act.put, List.setIfInBounds_toArray]
          refine wpAnyB_one (i := 20) true rfl (by kernel_rfl) (by kernel_rfl) ?_
          intro KK hKK
          go_simp
          refine hKK.out _ _ ⟨(F.out _ Ba52).1, (F.out _ Ba52).2.1, (F.out _ Ba52).2.2.1, (F.out _ Ba52).2.2.2.1, (F.out _ Ba52).2.2.2.2.1, fun hh => by cases hh⟩ ?_
          clear hKK KK
          try simp only [Act.put, List.setIfInBounds_toArray, List.set_cons_zero, List.set_cons_succ]
          refine wpAnyB_done (by kernel_rfl) (NoPanic.normal ?_) _
          have B6 := Ba52
          have F6 := Lib.hid (F.out _ B6)
          have G6 := Lib.hid (K0.trans (B6.mono (Nat.le_succ _)))
          have c3 := F6.out.2.2.1
          have c4' := F6.out.2.2.2.2.2
          by_cases e0 : er = 0
          · subst e0
            by_cases k1 : kd = 1
            · have HQ : Hid (pilE p s z ⟨kd, at_, wd⟩ = 0) := by
                show _ = _
                rw [HPE.out, if_neg (by decide), if_neg (by intro hh; exact hh.1 k1)]
              subst k1
              go_wp2
              go_ret
              rw [HQ.out]
              exact ⟨rfl, G6.out⟩
            · have k1b : (kd == 1) = false := by simpa using k1
              have k1c : (kd != 1) = true := by simpa using k1
              by_cases m4 : z.works.length = 400
              · have HQ : Hid (pilE p s z ⟨kd, at_, wd⟩ = 3) := by
                  show _ = _
                  rw [HPE.out, if_neg (by decide), if_pos ⟨k1, m4⟩]
                have m4b : ((z.works.length : Int) == 400) = true := by rw [m4]; rfl
                go_wp2
                go_ret
                rw [HQ.out]
                exact ⟨rfl, G6.out⟩
              · have HQ : Hid (pilE p s z ⟨kd, at_, wd⟩ = 0) := by
                  show _ = _
                  rw [HPE.out, if_neg (by decide), if_neg (by intro hh; exact m4 hh.2)]
                have m4b : ((z.works.length : Int) == 400) = false := by simp; omega
                go_wp2
                go_ret
                rw [HQ.out]
                exact ⟨rfl, G6.out⟩
          · have HQ : Hid (pilE p s z ⟨kd, at_, wd⟩ = er) := by
              show _ = _
              rw [HPE.out, if_pos e0]
            have e0b : (er != 0) = true := by simpa using e0
            go_wp2
            go_ret
            rw [HQ.out]
            exact ⟨rfl, G6.out⟩
        · intro KK hKK
          go_simp
          have Ba38 := Ba22.alloc za23 (.cells #[.int .i64 0, .slice none 0 0] 24)
          have za39 : W.heap.size + 1 ≤ (Wa26.alloc (.cells #[.int .i64 0, .slice none 0 0] 24)).heap.size := by simp; omega
          have oa40 := own_below oa24 ((Below.refl Wa26.heap.size Wa26).alloc (Nat.le_refl _) (.cells #[.int .i64 0, .slice none 0 0] 24))
          have Ka41 : Has (Wa26.alloc (.cells #[.int .i64 0, .slice none 0 0] 24)) Wa26.heap.size 24 [.int .i64 0, .slice none 0 0] := Has.new rfl
          generalize (Wa26.alloc (.cells #[.int .i64 0, .slice none 0 0] 24)) = Wa42 at *
          refine hKK.out _ _ ⟨(F.out _ Ba38).1, (F.out _ Ba38).2.1, (F.out _ Ba38).2.2.1, (F.out _ Ba38).2.2.2.1, (F.out _ Ba38).2.2.2.2.1, fun _ => trivial⟩ ?_
          clear hKK KK
          try simp only [Act.put, List.setIfInBounds_toArray, List.set_cons_zero, List.set_cons_succ]
          refine wpAnyB_one (i := 12) false rfl (by kernel_rfl) (by kernel_rfl) ?_
          intro KK hKK
          have CS := csheet p s A4 (1 + 1) c4 ([⟨1, z.hands, ⟨#[]⟩⟩] ++ [⟨kd, at_, wd⟩]) Wa42 (by decide) (own_rdW (by rw [wksCells_app]; exact oa40)) rfl HWS.out
          rw [← HER.out] at CS
          go_simp
          go_at_call 32
          refine CS.mono ?_
          rintro e Wa58 ⟨p5, A5, n5, c5, b5, rfl, hb5⟩
          have Ba54 := Ba38.trans (hb5.mono za39)
          have za55 := Nat.le_trans za39 hb5.size
          have Ka57 := Ka41.below hb5 Ka41.lt
          refine hKK.out _ _ ⟨(F.out _ Ba54).1, (F.out _ Ba54).2.1, (F.out _ Ba54).2.2.1, (F.out _ Ba54).2.2.2.1, (F.out _ Ba54).2.2.2.2.1, fun _ => trivial⟩ ?_
          clear hKK KK
          try simp only [Act.put, List.setIfInBounds_toArray, List.set_cons_zero, List.set_cons_succ]
          refine wpAnyB_take (i := 13) (oi := _) (v := ?vvta59) (fun w' => w'.cell? ⟨g, 0, none⟩ = some (.int .i64 p) ∧ w'.cell? ⟨g, 1, none⟩ = some (.int .i64 s) ∧ w'.cell? ⟨W.heap.size, 0, none⟩ = some (.int .i64 kd) ∧ w'.cell? ⟨W.heap.size, 1, none⟩ = some (.int .i64 at_) ∧ w'.cell? ⟨W.heap.size, 2, none⟩ = some (.string wd)) rfl (by kernel_rfl) (by kernel_rfl) (by kernel_rfl) (by kernel_rfl) (by rfl) (fun _ h => ⟨h.1, h.2.1, h.2.2.1, h.2.2.2.1, h.2.2.2.2.1⟩) (.inl fun _ h => ⟨h.1, h.2.1, h.2.2.1, h.2.2.2.1, h.2.2.2.2.1⟩) (fun _ _ _ h => h) (.inl ⟨by rfl, ?hyta59⟩) ⟨(F.out _ Ba54).1, (F.out _ Ba54).2.1, (F.out _ Ba54).2.2.1, (F.out _ Ba54).2.2.2.1, (F.out _ Ba54).2.2.2.2.1, fun _ => trivial⟩ ?_
          case hyta59 =>
            intro w' hSw
            try dsimp only at hSw
            go_simp
            all_goals with_reducible rfl
          try simp only [Act.put, List.setIfInBounds_toArray]
          refine wpAnyB_take (i := 14) (oi := _) (v := ?vvta60) (fun w' => w'.cell? ⟨g, 0, none⟩ = some (.int .i64 p) ∧ w'.cell? ⟨g, 1, none⟩ = some (.int .i64 s) ∧ w'.cell? ⟨W.heap.size, 0, none⟩ = some (.int .i64 kd) ∧ w'.cell? ⟨W.heap.size, 1, none⟩ = some (.int .i64 at_) ∧ w'.cell? ⟨W.heap.size, 2, none⟩ = some (.string wd)) rfl (by kernel_rfl) (by kernel_rfl) (by kernel_rfl) (by kernel_rfl) (by rfl) (fun _ h => ⟨h.1, h.2.1, h.2.2.1, h.2.2.2.1, h.2.2.2.2.1⟩) (.inl fun _ h => ⟨h.1, h.2.1, h.2.2.1, h.2.2.2.1, h.2.2.2.2.1⟩) (fun _ _ _ h => h) (.inl ⟨by rfl, ?hyta60⟩) ⟨(F.out _ Ba54).1, (F.out _ Ba54).2.1, (F.out _ Ba54).2.2.1, (F.out _ Ba54).2.2.2.1, (F.out _ Ba54).2.2.2.2.1, fun _ => trivial⟩ ?_
          case hyta60 =>
            intro w' hSw
            try dsimp only at hSw
            go_simp
            all_goals with_reducible rfl
          try simp only [Act.put]
          refine wpAnyB_take (i := 15) (oi := _) (v := ?vvta61) (fun w' => w'.cell? ⟨g, 0, none⟩ = some (.int .i64 p) ∧ w'.cell? ⟨g, 1, none⟩ = some (.int .i64 s) ∧ w'.cell? ⟨W.heap.size, 0, none⟩ = some (.int .i64 kd) ∧ w'.cell? ⟨W.heap.size, 1, none⟩ = some (.int .i64 at_) ∧ w'.cell? ⟨W.heap.size, 2, none⟩ = some (.string wd)) rfl (by kernel_rfl) (by kernel_rfl) (by kernel_rfl) (by kernel_rfl) (by rfl) (fun _ h => ⟨h.1, h.2.1, h.2.2.1, h.2.2.2.1, h.2.2.2.2.1⟩) (.inl fun _ h => ⟨h.1, h.2.1, h.2.2.1, h.2.2.2.1, h.2.2.2.2.1⟩) (fun _ _ _ h => h) (.inl ⟨by rfl, ?hyta61⟩) ⟨(F.out _ Ba54).1, (F.out _ Ba54).2.1, (F.out _ Ba54).2.2.1, (F.out _ Ba54).2.2.2.1, (F.out _ Ba54).2.2.2.2.1, fun _ => trivial⟩ ?_
          case hyta61 =>
            intro w' hSw
            try dsimp only at hSw
            go_simp
            all_goals with_reducible rfl
          try simp only [Act.put]
          refine wpAnyB_take (i := 16) (oi := _) (v := ?vvta62) (fun w' => w'.cell? ⟨g, 0, none⟩ = some (.int .i64 p) ∧ w'.cell? ⟨g, 1, none⟩ = some (.int .i64 s) ∧ w'.cell? ⟨W.heap.size, 0, none⟩ = some (.int .i64 kd) ∧ w'.cell? ⟨W.heap.size, 1, none⟩ = some (.int .i64 at_) ∧ w'.cell? ⟨W.heap.size, 2, none⟩ = some (.string wd)) rfl (by kernel_rfl) (by kernel_rfl) (by kernel_rfl) (by kernel_rfl) (by rfl) (fun _ h => ⟨h.1, h.2.1, h.2.2.1, h.2.2.2.1, h.2.2.2.2.1⟩) (.inl fun _ h => ⟨h.1, h.2.1, h.2.2.1, h.2.2.2.1, h.2.2.2.2.1⟩) (fun _ _ _ h => h) (.inl ⟨by rfl, ?hyta62⟩) ⟨(F.out _ Ba54).1, (F.out _ Ba54).2.1, (F.out _ Ba54).2.2.1, (F.out _ Ba54).2.2.2.1, (F.out _ Ba54).2.2.2.2.1, fun _ => trivial⟩ ?_
          case hyta62 =>
            intro w' hSw
            try dsimp only at hSw
            go_simp
            all_goals with_reducible rfl
          try simp only [Act.put]
          refine wpAnyB_one (i := 18) false rfl (by kernel_rfl) (by kernel_rfl) ?_
          intro KK hKK
          have k0 := Ka57.cell 0
          have k1 := Ka57.cell 1
          have f0 := Ka57.free 0
          have f1 := Ka57.free 1
          have q8 := Ka57.lt
          go_simp
          have Ba63 := (Ba54.setCell (p := ⟨Wa26.heap.size, 0, none⟩) (by show _ ≤ Wa26.heap.size; omega) (.int .i64 p5)).setCell (p := ⟨Wa26.heap.size, 1, none⟩) (by show _ ≤ Wa26.heap.size; omega) (.slice A5 n5 c5)
          generalize ((Wa58.setCell ⟨Wa26.heap.size, 0, none⟩ (.int .i64 p5)).setCell ⟨Wa26.heap.size, 1, none⟩ (.slice A5 n5 c5)) = w6 at *
          refine hKK.out _ _ ⟨(F.out _ Ba63).1, (F.out _ Ba63).2.1, (F.out _ Ba63).2.2.1, (F.out _ Ba63).2.2.2.1, (F.out _ Ba63).2.2.2.2.1, fun _ => trivial⟩ ?_
          clear hKK KK
          try simp only [Act.put, List.setIfInBounds_toArray, List.set_cons_zero, List.set_cons_succ]
          refine wpAnyB_take (i := 19) (oi := _) (v := ?vvta64) (fun w' => w'.cell? ⟨g, 0, none⟩ = some (.int .i64 p) ∧ w'.cell? ⟨g, 1, none⟩ = some (.int .i64 s) ∧ w'.cell? ⟨W.heap.size, 0, none⟩ = some (.int .i64 kd) ∧ w'.cell? ⟨W.heap.size, 1, none⟩ = some (.int .i64 at_) ∧ w'.cell? ⟨W.heap.size, 2, none⟩ = some (.string wd)) rfl (by kernel_rfl) (by kernel_rfl) (by kernel_rfl) (by kernel_rfl) (by rfl) (fun _ h => ⟨h.1, h.2.1, h.2.2.1, h.2.2.2.1, h.2.2.2.2.1⟩) (.inl fun _ h => ⟨h.1, h.2.1, h.2.2.1, h.2.2.2.1, h.2.2.2.2.1⟩) (fun _ _ _ h => h) (.inl ⟨by rfl, ?hyta64⟩) ⟨(F.out _ Ba63).1, (F.out _ Ba63).2.1, (F.out _ Ba63).2.2.1, (F.out _ Ba63).2.2.2.1, (F.out _ Ba63).2.2.2.2.1, fun _ => trivial⟩ ?_
          case hyta64 =>
            intro w' hSw
            try dsimp only at hSw
            go_simp
            all_goals with_reducible rfl
          try simp only [Act.put, List.setIfInBounds_toArray]
          refine wpAnyB_one (i := 20) true rfl (by kernel_rfl) (by kernel_rfl) ?_
          intro KK hKK
          go_simp
          refine hKK.out _ _ ⟨(F.out _ Ba63).1, (F.out _ Ba63).2.1, (F.out _ Ba63).2.2.1, (F.out _ Ba63).2.2.2.1, (F.out _ Ba63).2.2.2.2.1, fun hh => by cases hh⟩ ?_
          clear hKK KK
          try simp only [Act.put, List.setIfInBounds_toArray, List.set_cons_zero, List.set_cons_succ]
          refine wpAnyB_done (by kernel_rfl) (NoPanic.normal ?_) _
          have B6 := Ba63
          have F6 := Lib.hid (F.out _ B6)
          have G6 := Lib.hid (K0.trans (B6.mono (Nat.le_succ _)))
          have c3 := F6.out.2.2.1
          have c4' := F6.out.2.2.2.2.2
          by_cases e0 : er = 0
          · subst e0
            by_cases k1 : kd = 1
            · have HQ : Hid (pilE p s z ⟨kd, at_, wd⟩ = 0) := by
                show _ = _
                rw [HPE.out, if_neg (by decide), if_neg (by intro hh; exact hh.1 k1)]
              subst k1
              go_wp2
              go_ret
              rw [HQ.out]
              exact ⟨rfl, G6.out⟩
            · have k1b : (kd == 1) = false := by simpa using k1
              have k1c : (kd != 1) = true := by simpa using k1
              by_cases m4 : z.works.length = 400
              · have HQ : Hid (pilE p s z ⟨kd, at_, wd⟩ = 3) := by
                  show _ = _
                  rw [HPE.out, if_neg (by decide), if_pos ⟨k1, m4⟩]
                have m4b : ((z.works.length : Int) == 400) = true := by rw [m4]; rfl
                go_wp2
                go_ret
                rw [HQ.out]
                exact ⟨rfl, G6.out⟩
              · have HQ : Hid (pilE p s z ⟨kd, at_, wd⟩ = 0) := by
                  show _ = _
                  rw [HPE.out, if_neg (by decide), if_neg (by intro hh; exact m4 hh.2)]
                have m4b : ((z.works.length : Int) == 400) = false := by simp; omega
                go_wp2
                go_ret
                rw [HQ.out]
                exact ⟨rfl, G6.out⟩
          · have HQ : Hid (pilE p s z ⟨kd, at_, wd⟩ = er) := by
              show _ = _
              rw [HPE.out, if_pos e0]
            have e0b : (er != 0) = true := by simpa using e0
            go_wp2
            go_ret
            rw [HQ.out]
            exact ⟨rfl, G6.out⟩
      · intro KK hKK
        go_simp
        have Ba27 := Ba11.alloc za12 (.cells #[.int .i64 0, .slice none 0 0] 24)
        have za28 : W.heap.size + 1 ≤ (Wa15.alloc (.cells #[.int .i64 0, .slice none 0 0] 24)).heap.size := by simp; omega
        have oa29 := own_below oa13 ((Below.refl Wa15.heap.size Wa15).alloc (Nat.le_refl _) (.cells #[.int .i64 0, .slice none 0 0] 24))
        have Ka30 : Has (Wa15.alloc (.cells #[.int .i64 0, .slice none 0 0] 24)) Wa15.heap.size 24 [.int .i64 0, .slice none 0 0] := Has.new rfl
        have Na32 : Wd.heap.size < (Wa15.alloc (.cells #[.int .i64 0, .slice none 0 0] 24)).heap.size ∧ ∀ p u, ([.int .i64 kd, .int .i64 at_, .string wd] : List Value)[p]? = some u → (Wa15.alloc (.cells #[.int .i64 0, .slice none 0 0] 24)).cell? ⟨Wd.heap.size, p, none⟩ = some u := ⟨by simp; omega, fun p u hu => (Below.cell ((Below.refl Wa15.heap.size Wa15).alloc (Nat.le_refl _) (.cells #[.int .i64 0, .slice none 0 0] 24)) (p := ⟨Wd.heap.size, p, none⟩) Na16.1).trans (Na16.2 p u hu)⟩
        generalize (Wa15.alloc (.cells #[.int .i64 0, .slice none 0 0] 24)) = Wa31 at *
        refine hKK.out _ _ ⟨(F.out _ Ba27).1, (F.out _ Ba27).2.1, (F.out _ Ba27).2.2.1, (F.out _ Ba27).2.2.2.1, (F.out _ Ba27).2.2.2.2.1, fun _ => trivial⟩ ?_
        clear hKK KK
        try simp only [Act.put, List.setIfInBounds_toArray, List.set_cons_zero, List.set_cons_succ]
        refine wpAnyB_one (i := 11) false rfl (by kernel_rfl) (by kernel_rfl) ?_
        intro KK hKK
        refine step_appN rfl (.tmp 31) (.tmp 33) 25 rfl (W.heap.size + 1) 35 (.agg #[.int .i64 0, .int .i64 0, .string ⟨#[]⟩]) 3 32 Try.underlying25 infoCs rfl (by omega) (by omega) (.slice (some ⟨g1, 0, none⟩) 1 cap1) 1 (wksCells [⟨1, z.hands, ⟨#[]⟩⟩]) rfl oa29 ⟨Wd.heap.size, 0, none⟩ 1 1 [.int .i64 kd, .int .i64 at_, .string wd] rfl rfl (fun j u hu => by rw [Addr.add_lit, Nat.zero_add]; exact Na32.2 j u hu) (by simp [Value.oneCell']) (by omega) (by omega) ?_
        intro v' Wa69 oa67 hgrow4 hnil4 hor4
        obtain ⟨A4, c4, rfl⟩ := own_form oa67
        have za66 := Nat.le_trans za28 hgrow4.size
        have Ba65 := Ba27.grown hgrow4 za28 (fun k hk => (oa29.lt k hk).1)
        have Ka68 := Ka30.same (hgrow4.block _ Ka30.lt (fun e => Ka30.ne_own oa29 (by decide) e.symm))
        refine hKK.out _ _ ⟨(F.out _ Ba65).1, (F.out _ Ba65).2.1, (F.out _ Ba65).2.2.1, (F.out _ Ba65).2.2.2.1, (F.out _ Ba65).2.2.2.2.1, fun _ => trivial⟩ ?_
        clear hKK KK
        try simp only [Act.put, List.setIfInBounds_toArray]
        refine wpAnyB_one (i := 12) false rfl (by kernel_rfl) (by kernel_rfl) ?_
        intro KK hKK
        have CS := csheet p s A4 (1 + 1) c4 ([⟨1, z.hands, ⟨#[]⟩⟩] ++ [⟨kd, at_, wd⟩]) Wa69 (by decide) (own_rdW (by rw [wksCells_app]; exact oa67)) rfl HWS.out
        rw [← HER.out] at CS
        go_simp
        go_at_call 32
        refine CS.mono ?_
        rintro e Wa74 ⟨p5, A5, n5, c5, b5, rfl, hb5⟩
        have Ba70 := Ba65.trans (hb5.mono za66)
        have za71 := Nat.le_trans za66 hb5.size
        have Ka73 := Ka68.below hb5 Ka68.lt
        refine hKK.out _ _ ⟨(F.out _ Ba70).1, (F.out _ Ba70).2.1, (F.out _ Ba70).2.2.1, (F.out _ Ba70).2.2.2.1, (F.out _ Ba70).2.2.2.2.1, fun _ => trivial⟩ ?_
        clear hKK KK
        try simp only [Act.put, List.setIfInBounds_toArray, List.set_cons_zero, List.set_cons_succ]
        refine wpAnyB_take (i := 13) (oi := _) (v := ?vvta75) (fun w' => w'.cell? ⟨g, 0, none⟩ = some (.int .i64 p) ∧ w'.cell? ⟨g, 1, none⟩ = some (.int .i64 s) ∧ w'.cell? ⟨W.heap.size, 0, none⟩ = some (.int .i64 kd) ∧ w'.cell? ⟨W.heap.size, 1, none⟩ = some (.int .i64 at_) ∧ w'.cell? ⟨W.heap.size, 2, none⟩ = some (.string wd)) rfl (by kernel_rfl) (by kernel_rfl) (by kernel_rfl) (by kernel_rfl) (by rfl) (fun _ h => ⟨h.1, h.2.1, h.2.2.1, h.2.2.2.1, h.2.2.2.2.1⟩) (.inl fun _ h => ⟨h.1, h.2.1, h.2.2.1, h.2.2.2.1, h.2.2.2.2.1⟩) (fun _ _ _ h => h) (.inl ⟨by rfl, ?hyta75⟩) ⟨(F.out _ Ba70).1, (F.out _ Ba70).2.1, (F.out _ Ba70).2.2.1, (F.out _ Ba70).2.2.2.1, (F.out _ Ba70).2.2.2.2.1, fun _ => trivial⟩ ?_
        case hyta75 =>
          intro w' hSw
          try dsimp only at hSw
          go_simp
          all_goals with_reducible rfl
        try simp only [Act.put, List.setIfInBounds_toArray]
        refine wpAnyB_take (i := 14) (oi := _) (v := ?vvta76) (fun w' => w'.cell? ⟨g, 0, none⟩ = some (.int .i64 p) ∧ w'.cell? ⟨g, 1, none⟩ = some (.int .i64 s) ∧ w'.cell? ⟨W.heap.size, 0, none⟩ = some (.int .i64 kd) ∧ w'.cell? ⟨W.heap.size, 1, none⟩ = some (.int .i64 at_) ∧ w'.cell? ⟨W.heap.size, 2, none⟩ = some (.string wd)) rfl (by kernel_rfl) (by kernel_rfl) (by kernel_rfl) (by kernel_rfl) (by rfl) (fun _ h => ⟨h.1, h.2.1, h.2.2.1, h.2.2.2.1, h.2.2.2.2.1⟩) (.inl fun _ h => ⟨h.1, h.2.1, h.2.2.1, h.2.2.2.1, h.2.2.2.2.1⟩) (fun _ _ _ h => h) (.inl ⟨by rfl, ?hyta76⟩) ⟨(F.out _ Ba70).1, (F.out _ Ba70).2.1, (F.out _ Ba70).2.2.1, (F.out _ Ba70).2.2.2.1, (F.out _ Ba70).2.2.2.2.1, fun _ => trivial⟩ ?_
        case hyta76 =>
          intro w' hSw
          try dsimp only at hSw
          go_simp
          all_goals with_reducible rfl
        try simp only [Act.put]
        refine wpAnyB_take (i := 15) (oi := _) (v := ?vvta77) (fun w' => w'.cell? ⟨g, 0, none⟩ = some (.int .i64 p) ∧ w'.cell? ⟨g, 1, none⟩ = some (.int .i64 s) ∧ w'.cell? ⟨W.heap.size, 0, none⟩ = some (.int .i64 kd) ∧ w'.cell? ⟨W.heap.size, 1, none⟩ = some (.int .i64 at_) ∧ w'.cell? ⟨W.heap.size, 2, none⟩ = some (.string wd)) rfl (by kernel_rfl) (by kernel_rfl) (by kernel_rfl) (by kernel_rfl) (by rfl) (fun _ h => ⟨h.1, h.2.1, h.2.2.1, h.2.2.2.1, h.2.2.2.2.1⟩) (.inl fun _ h => ⟨h.1, h.2.1, h.2.2.1, h.2.2.2.1, h.2.2.2.2.1⟩) (fun _ _ _ h => h) (.inl ⟨by rfl, ?hyta77⟩) ⟨(F.out _ Ba70).1, (F.out _ Ba70).2.1, (F.out _ Ba70).2.2.1, (F.out _ Ba70).2.2.2.1, (F.out _ Ba70).2.2.2.2.1, fun _ => trivial⟩ ?_
        case hyta77 =>
          intro w' hSw
          try dsimp only at hSw
          go_simp
          all_goals with_reducible rfl
        try simp only [Act.put]
        refine wpAnyB_take (i := 16) (oi := _) (v := ?vvta78) (fun w' => w'.cell? ⟨g, 0, none⟩ = some (.int .i64 p) ∧ w'.cell? ⟨g, 1, none⟩ = some (.int .i64 s) ∧ w'.cell? ⟨W.heap.size, 0, none⟩ = some (.int .i64 kd) ∧ w'.cell? ⟨W.heap.size, 1, none⟩ = some (.int .i64 at_) ∧ w'.cell? ⟨W.heap.size, 2, none⟩ = some (.string wd)) rfl (by kernel_rfl) (by kernel_rfl) (by kernel_rfl) (by kernel_rfl) (by rfl) (fun _ h => ⟨h.1, h.2.1, h.2.2.1, h.2.2.2.1, h.2.2.2.2.1⟩) (.inl fun _ h => ⟨h.1, h.2.1, h.2.2.1, h.2.2.2.1, h.2.2.2.2.1⟩) (fun _ _ _ h => h) (.inl ⟨by rfl, ?hyta78⟩) ⟨(F.out _ Ba70).1, (F.out _ Ba70).2.1, (F.out _ Ba70).2.2.1, (F.out _ Ba70).2.2.2.1, (F.out _ Ba70).2.2.2.2.1, fun _ => trivial⟩ ?_
        case hyta78 =>
          intro w' hSw
          try dsimp only at hSw
          go_simp
          all_goals with_reducible rfl
        try simp only [Act.put]
        refine wpAnyB_one (i := 18) false rfl (by kernel_rfl) (by kernel_rfl) ?_
        intro KK hKK
        have k0 := Ka73.cell 0
        have k1 := Ka73.cell 1
        have f0 := Ka73.free 0
        have f1 := Ka73.free 1
        have q8 := Ka73.lt
        go_simp
        have Ba79 := (Ba70.setCell (p := ⟨Wa15.heap.size, 0, none⟩) (by show _ ≤ Wa15.heap.size; omega) (.int .i64 p5)).setCell (p := ⟨Wa15.heap.size, 1, none⟩) (by show _ ≤ Wa15.heap.size; omega) (.slice A5 n5 c5)
        generalize ((Wa74.setCell ⟨Wa15.heap.size, 0, none⟩ (.int .i64 p5)).setCell ⟨Wa15.heap.size, 1, none⟩ (.slice A5 n5 c5)) = w6 at *
        refine hKK.out _ _ ⟨(F.out _ Ba79).1, (F.out _ Ba79).2.1, (F.out _ Ba79).2.2.1, (F.out _ Ba79).2.2.2.1, (F.out _ Ba79).2.2.2.2.1, fun _ => trivial⟩ ?_
        clear hKK KK
        try simp only [Act.put, List.setIfInBounds_toArray, List.set_cons_zero, List.set_cons_succ]
        refine wpAnyB_take (i := 19) (oi := _) (v := ?vvta80) (fun w' => w'.cell? ⟨g, 0, none⟩ = some (.int .i64 p) ∧ w'.cell? ⟨g, 1, none⟩ = some (.int .i64 s) ∧ w'.cell? ⟨W.heap.size, 0, none⟩ = some (.int .i64 kd) ∧ w'.cell? ⟨W.heap.size, 1, none⟩ = some (.int .i64 at_) ∧ w'.cell? ⟨W.heap.size, 2, none⟩ = some (.string wd)) rfl (by kernel_rfl) (by kernel_rfl) (by kernel_rfl) (by kernel_rfl) (by rfl) (fun _ h => ⟨h.1, h.2.1, h.2.2.1, h.2.2.2.1, h.2.2.2.2.1⟩) (.inl fun _ h => ⟨h.1, h.2.1, h.2.2.1, h.2.2.2.1, h.2.2.2.2.1⟩) (fun _ _ _ h => h) (.inl ⟨by rfl, ?hyta80⟩) ⟨(F.out _ Ba79).1, (F.out _ Ba79).2.1, (F.out _ Ba79).2.2.1, (F.out _ Ba79).2.2.2.1, (F.out _ Ba79).2.2.2.2.1, fun _ => trivial⟩ ?_
        case hyta80 =>
          intro w' hSw
          try dsimp only at hSw
          go_simp
          all_goals with_reducible rfl
        try simp only [Act.put, List.setIfInBounds_toArray]
        refine wpAnyB_one (i := 20) true rfl (by kernel_rfl) (by kernel_rfl) ?_
        intro KK hKK
        go_simp
        refine hKK.out _ _ ⟨(F.out _ Ba79).1, (F.out _ Ba79).2.1, (F.out _ Ba79).2.2.1, (F.out _ Ba79).2.2.2.1, (F.out _ Ba79).2.2.2.2.1, fun hh => by cases hh⟩ ?_
        clear hKK KK
        try simp only [Act.put, List.setIfInBounds_toArray, List.set_cons_zero, List.set_cons_succ]
        refine wpAnyB_done (by kernel_rfl) (NoPanic.normal ?_) _
        have B6 := Ba79
        have F6 := Lib.hid (F.out _ B6)
        have G6 := Lib.hid (K0.trans (B6.mono (Nat.le_succ _)))
        have c3 := F6.out.2.2.1
        have c4' := F6.out.2.2.2.2.2
        by_cases e0 : er = 0
        · subst e0
          by_cases k1 : kd = 1
          · have HQ : Hid (pilE p s z ⟨kd, at_, wd⟩ = 0) := by
              show _ = _
              rw [HPE.out, if_neg (by decide), if_neg (by intro hh; exact hh.1 k1)]
            subst k1
            go_wp2
            go_ret
            rw [HQ.out]
            exact ⟨rfl, G6.out⟩
          · have k1b : (kd == 1) = false := by simpa using k1
            have k1c : (kd != 1) = true := by simpa using k1
            by_cases m4 : z.works.length = 400
            · have HQ : Hid (pilE p s z ⟨kd, at_, wd⟩ = 3) := by
                show _ = _
                rw [HPE.out, if_neg (by decide), if_pos ⟨k1, m4⟩]
              have m4b : ((z.works.length : Int) == 400) = true := by rw [m4]; rfl
              go_wp2
              go_ret
              rw [HQ.out]
              exact ⟨rfl, G6.out⟩
            · have HQ : Hid (pilE p s z ⟨kd, at_, wd⟩ = 0) := by
                show _ = _
                rw [HPE.out, if_neg (by decide), if_neg (by intro hh; exact m4 hh.2)]
              have m4b : ((z.works.length : Int) == 400) = false := by simp; omega
              go_wp2
              go_ret
              rw [HQ.out]
              exact ⟨rfl, G6.out⟩
        · have HQ : Hid (pilE p s z ⟨kd, at_, wd⟩ = er) := by
            show _ = _
            rw [HPE.out, if_pos e0]
          have e0b : (er != 0) = true := by simpa using e0
          go_wp2
          go_ret
          rw [HQ.out]
          exact ⟨rfl, G6.out⟩
    · intro KK hKK
      go_simp
      have Ba17 := Bd.alloc zd (.cells #[.int .i64 0, .slice none 0 0] 24)
      have za18 : W.heap.size + 1 ≤ (Wd.alloc (.cells #[.int .i64 0, .slice none 0 0] 24)).heap.size := by simp; omega
      have oa19 := own_below od ((Below.refl Wd.heap.size Wd).alloc (Nat.le_refl _) (.cells #[.int .i64 0, .slice none 0 0] 24))
      have Ka20 : Has (Wd.alloc (.cells #[.int .i64 0, .slice none 0 0] 24)) Wd.heap.size 24 [.int .i64 0, .slice none 0 0] := Has.new rfl
      generalize (Wd.alloc (.cells #[.int .i64 0, .slice none 0 0] 24)) = Wa21 at *
      refine hKK.out _ _ ⟨(F.out _ Ba17).1, (F.out _ Ba17).2.1, (F.out _ Ba17).2.2.1, (F.out _ Ba17).2.2.2.1, (F.out _ Ba17).2.2.2.2.1, fun _ => trivial⟩ ?_
      clear hKK KK
      try simp only [Act.put, List.setIfInBounds_toArray, List.set_cons_zero, List.set_cons_succ]
      refine wpAnyB_one (i := 10) false rfl (by kernel_rfl) (by kernel_rfl) ?_
      intro KK hKK
      go_simp
      have Ba81 := Ba17.alloc za18 (.cells #[.int .i64 kd, .int .i64 at_, .string wd] 35)
      have za82 : W.heap.size + 1 ≤ (Wa21.alloc (.cells #[.int .i64 kd, .int .i64 at_, .string wd] 35)).heap.size := by simp; omega
      have oa83 := own_below oa19 ((Below.refl Wa21.heap.size Wa21).alloc (Nat.le_refl _) (.cells #[.int .i64 kd, .int .i64 at_, .string wd] 35))
      have Na86 : Wa21.heap.size < (Wa21.alloc (.cells #[.int .i64 kd, .int .i64 at_, .string wd] 35)).heap.size ∧ ∀ p u, ([.int .i64 kd, .int .i64 at_, .string wd] : List Value)[p]? = some u → (Wa21.alloc (.cells #[.int .i64 kd, .int .i64 at_, .string wd] 35)).cell? ⟨Wa21.heap.size, p, none⟩ = some u := ⟨by simp, fun p u hu => ((Has.new (w := Wa21) (t := 35) (cs := [.int .i64 kd, .int .i64 at_, .string wd]) rfl).cell p).trans hu⟩
      have Ka84 := Ka20.alloc (.cells #[.int .i64 kd, .int .i64 at_, .string wd] 35)
      generalize (Wa21.alloc (.cells #[.int .i64 kd, .int .i64 at_, .string wd] 35)) = Wa85 at *
      refine hKK.out _ _ ⟨(F.out _ Ba81).1, (F.out _ Ba81).2.1, (F.out _ Ba81).2.2.1, (F.out _ Ba81).2.2.2.1, (F.out _ Ba81).2.2.2.2.1, fun _ => trivial⟩ ?_
      clear hKK KK
      try simp only [Act.put, List.setIfInBounds_toArray, List.set_cons_zero, List.set_cons_succ]
      refine wpAnyB_one (i := 11) false rfl (by kernel_rfl) (by kernel_rfl) ?_
      intro KK hKK
      refine step_appN rfl (.tmp 31) (.tmp 33) 25 rfl (W.heap.size + 1) 35 (.agg #[.int .i64 0, .int .i64 0, .string ⟨#[]⟩]) 3 32 Try.underlying25 infoCs rfl (by omega) (by omega) (.slice (some ⟨g1, 0, none⟩) 1 cap1) 1 (wksCells [⟨1, z.hands, ⟨#[]⟩⟩]) rfl oa83 ⟨Wa21.heap.size, 0, none⟩ 1 1 [.int .i64 kd, .int .i64 at_, .string wd] rfl rfl (fun j u hu => by rw [Addr.add_lit, Nat.zero_add]; exact Na86.2 j u hu) (by simp [Value.oneCell']) (by omega) (by omega) ?_
      intro v' Wa91 oa89 hgrow4 hnil4 hor4
      obtain ⟨A4, c4, rfl⟩ := own_form oa89
      have za88 := Nat.le_trans za82 hgrow4.size
      have Ba87 := Ba81.grown hgrow4 za82 (fun k hk => (oa83.lt k hk).1)
      have Ka90 := Ka84.same (hgrow4.block _ Ka84.lt (fun e => Ka84.ne_own oa83 (by decide) e.symm))
      refine hKK.out _ _ ⟨(F.out _ Ba87).1, (F.out _ Ba87).2.1, (F.out _ Ba87).2.2.1, (F.out _ Ba87).2.2.2.1, (F.out _ Ba87).2.2.2.2.1, fun _ => trivial⟩ ?_
      clear hKK KK
      try simp only [Act.put, List.setIfInBounds_toArray]
      refine wpAnyB_one (i := 12) false rfl (by kernel_rfl) (by kernel_rfl) ?_
      intro KK hKK
      have CS := csheet p s A4 (1 + 1) c4 ([⟨1, z.hands, ⟨#[]⟩⟩] ++ [⟨kd, at_, wd⟩]) Wa91 (by decide) (own_rdW (by rw [wksCells_app]; exact oa89)) rfl HWS.out
      rw [← HER.out] at CS
      go_simp
      go_at_call 32
      refine CS.mono ?_
      rintro e Wa96 ⟨p5, A5, n5, c5, b5, rfl, hb5⟩
      have Ba92 := Ba87.trans (hb5.mono za88)
      have za93 := Nat.le_trans za88 hb5.size
      have Ka95 := Ka90.below hb5 Ka90.lt
      refine hKK.out _ _ ⟨(F.out _ Ba92).1, (F.out _ Ba92).2.1, (F.out _ Ba92).2.2.1, (F.out _ Ba92).2.2.2.1, (F.out _ Ba92).2.2.2.2.1, fun _ => trivial⟩ ?_
      clear hKK KK
      try simp only [Act.put, List.setIfInBounds_toArray, List.set_cons_zero, List.set_cons_succ]
      refine wpAnyB_take (i := 13) (oi := _) (v := ?vvta97) (fun w' => w'.cell? ⟨g, 0, none⟩ = some (.int .i64 p) ∧ w'.cell? ⟨g, 1, none⟩ = some (.int .i64 s) ∧ w'.cell? ⟨W.heap.size, 0, none⟩ = some (.int .i64 kd) ∧ w'.cell? ⟨W.heap.size, 1, none⟩ = some (.int .i64 at_) ∧ w'.cell? ⟨W.heap.size, 2, none⟩ = some (.string wd)) rfl (by kernel_rfl) (by kernel_rfl) (by kernel_rfl) (by kernel_rfl) (by rfl) (fun _ h => ⟨h.1, h.2.1, h.2.2.1, h.2.2.2.1, h.2.2.2.2.1⟩) (.inl fun _ h => ⟨h.1, h.2.1, h.2.2.1, h.2.2.2.1, h.2.2.2.2.1⟩) (fun _ _ _ h => h) (.inl ⟨by rfl, ?hyta97⟩) ⟨(F.out _ Ba92).1, (F.out _ Ba92).2.1, (F.out _ Ba92).2.2.1, (F.out _ Ba92).2.2.2.1, (F.out _ Ba92).2.2.2.2.1, fun _ => trivial⟩ ?_
      case hyta97 =>
        intro w' hSw
        try dsimp only at hSw
        go_simp
        all_goals with_reducible rfl
      try simp only [Act.put, List.setIfInBounds_toArray]
      refine wpAnyB_take (i := 14) (oi := _) (v := ?vvta98) (fun w' => w'.cell? ⟨g, 0, none⟩ = some (.int .i64 p) ∧ w'.cell? ⟨g, 1, none⟩ = some (.int .i64 s) ∧ w'.cell? ⟨W.heap.size, 0, none⟩ = some (.int .i64 kd) ∧ w'.cell? ⟨W.heap.size, 1, none⟩ = some (.int .i64 at_) ∧ w'.cell? ⟨W.heap.size, 2, none⟩ = some (.string wd)) rfl (by kernel_rfl) (by kernel_rfl) (by kernel_rfl) (by kernel_rfl) (by rfl) (fun _ h => ⟨h.1, h.2.1, h.2.2.1, h.2.2.2.1, h.2.2.2.2.1⟩) (.inl fun _ h => ⟨h.1, h.2.1, h.2.2.1, h.2.2.2.1, h.2.2.2.2.1⟩) (fun _ _ _ h => h) (.inl ⟨by rfl, ?hyta98⟩) ⟨(F.out _ Ba92).1, (F.out _ Ba92).2.1, (F.out _ Ba92).2.2.1, (F.out _ Ba92).2.2.2.1, (F.out _ Ba92).2.2.2.2.1, fun _ => trivial⟩ ?_
      case hyta98 =>
        intro w' hSw
        try dsimp only at hSw
        go_simp
        all_goals with_reducible rfl
      try simp only [Act.put]
      refine wpAnyB_take (i := 15) (oi := _) (v := ?vvta99) (fun w' => w'.cell? ⟨g, 0, none⟩ = some (.int .i64 p) ∧ w'.cell? ⟨g, 1, none⟩ = some (.int .i64 s) ∧ w'.cell? ⟨W.heap.size, 0, none⟩ = some (.int .i64 kd) ∧ w'.cell? ⟨W.heap.size, 1, none⟩ = some (.int .i64 at_) ∧ w'.cell? ⟨W.heap.size, 2, none⟩ = some (.string wd)) rfl (by kernel_rfl) (by kernel_rfl) (by kernel_rfl) (by kernel_rfl) (by rfl) (fun _ h => ⟨h.1, h.2.1, h.2.2.1, h.2.2.2.1, h.2.2.2.2.1⟩) (.inl fun _ h => ⟨h.1, h.2.1, h.2.2.1, h.2.2.2.1, h.2.2.2.2.1⟩) (fun _ _ _ h => h) (.inl ⟨by rfl, ?hyta99⟩) ⟨(F.out _ Ba92).1, (F.out _ Ba92).2.1, (F.out _ Ba92).2.2.1, (F.out _ Ba92).2.2.2.1, (F.out _ Ba92).2.2.2.2.1, fun _ => trivial⟩ ?_
      case hyta99 =>
        intro w' hSw
        try dsimp only at hSw
        go_simp
        all_goals with_reducible rfl
      try simp only [Act.put]
      refine wpAnyB_take (i := 16) (oi := _) (v := ?vvta100) (fun w' => w'.cell? ⟨g, 0, none⟩ = some (.int .i64 p) ∧ w'.cell? ⟨g, 1, none⟩ = some (.int .i64 s) ∧ w'.cell? ⟨W.heap.size, 0, none⟩ = some (.int .i64 kd) ∧ w'.cell? ⟨W.heap.size, 1, none⟩ = some (.int .i64 at_) ∧ w'.cell? ⟨W.heap.size, 2, none⟩ = some (.string wd)) rfl (by kernel_rfl) (by kernel_rfl) (by kernel_rfl) (by kernel_rfl) (by rfl) (fun _ h => ⟨h.1, h.2.1, h.2.2.1, h.2.2.2.1, h.2.2.2.2.1⟩) (.inl fun _ h => ⟨h.1, h.2.1, h.2.2.1, h.2.2.2.1, h.2.2.2.2.1⟩) (fun _ _ _ h => h) (.inl ⟨by rfl, ?hyta100⟩) ⟨(F.out _ Ba92).1, (F.out _ Ba92).2.1, (F.out _ Ba92).2.2.1, (F.out _ Ba92).2.2.2.1, (F.out _ Ba92).2.2.2.2.1, fun _ => trivial⟩ ?_
      case hyta100 =>
        intro w' hSw
        try dsimp only at hSw
        go_simp
        all_goals with_reducible rfl
      try simp only [Act.put]
      refine wpAnyB_one (i := 18) false rfl (by kernel_rfl) (by kernel_rfl) ?_
      intro KK hKK
      have k0 := Ka95.cell 0
      have k1 := Ka95.cell 1
      have f0 := Ka95.free 0
      have f1 := Ka95.free 1
      have q8 := Ka95.lt
      go_simp
      have Ba101 := (Ba92.setCell (p := ⟨Wd.heap.size, 0, none⟩) (by show _ ≤ Wd.heap.size; omega) (.int .i64 p5)).setCell (p := ⟨Wd.heap.size, 1, none⟩) (by show _ ≤ Wd.heap.size; omega) (.slice A5 n5 c5)
      generalize ((Wa96.setCell ⟨Wd.heap.size, 0, none⟩ (.int .i64 p5)).setCell ⟨Wd.heap.size, 1, none⟩ (.slice A5 n5 c5)) = w6 at *
      refine hKK.out _ _ ⟨(F.out _ Ba101).1, (F.out _ Ba101).2.1, (F.out _ Ba101).2.2.1, (F.out _ Ba101).2.2.2.1, (F.out _ Ba101).2.2.2.2.1, fun _ => trivial⟩ ?_
      clear hKK KK
      try simp only [Act.put, List.setIfInBounds_toArray, List.set_cons_zero, List.set_cons_succ]
      refine wpAnyB_take (i := 19) (oi := _) (v := ?vvta102) (fun w' => w'.cell? ⟨g, 0, none⟩ = some (.int .i64 p) ∧ w'.cell? ⟨g, 1, none⟩ = some (.int .i64 s) ∧ w'.cell? ⟨W.heap.size, 0, none⟩ = some (.int .i64 kd) ∧ w'.cell? ⟨W.heap.size, 1, none⟩ = some (.int .i64 at_) ∧ w'.cell? ⟨W.heap.size, 2, none⟩ = some (.string wd)) rfl (by kernel_rfl) (by kernel_rfl) (by kernel_rfl) (by kernel_rfl) (by rfl) (fun _ h => ⟨h.1, h.2.1, h.2.2.1, h.2.2.2.1, h.2.2.2.2.1⟩) (.inl fun _ h => ⟨h.1, h.2.1, h.2.2.1, h.2.2.2.1, h.2.2.2.2.1⟩) (fun _ _ _ h => h) (.inl ⟨by rfl, ?hyta102⟩) ⟨(F.out _ Ba101).1, (F.out _ Ba101).2.1, (F.out _ Ba101).2.2.1, (F.out _ Ba101).2.2.2.1, (F.out _ Ba101).2.2.2.2.1, fun _ => trivial⟩ ?_
      case hyta102 =>
        intro w' hSw
        try dsimp only at hSw
        go_simp
        all_goals with_reducible rfl
      try simp only [Act.put, List.setIfInBounds_toArray]
      refine wpAnyB_one (i := 20) true rfl (by kernel_rfl) (by kernel_rfl) ?_
      intro KK hKK
      go_simp
      refine hKK.out _ _ ⟨(F.out _ Ba101).1, (F.out _ Ba101).2.1, (F.out _ Ba101).2.2.1, (F.out _ Ba101).2.2.2.1, (F.out _ Ba101).2.2.2.2.1, fun hh => by cases hh⟩ ?_
      clear hKK KK
      try simp only [Act.put, List.setIfInBounds_toArray, List.set_cons_zero, List.set_cons_succ]
      refine wpAnyB_done (by kernel_rfl) (NoPanic.normal ?_) _
      have B6 := Ba101
      have F6 := Lib.hid (F.out _ B6)
      have G6 := Lib.hid (K0.trans (B6.mono (Nat.le_succ _)))
      have c3 := F6.out.2.2.1
      have c4' := F6.out.2.2.2.2.2
      by_cases e0 : er = 0
      · subst e0
        by_cases k1 : kd = 1
        · have HQ : Hid (pilE p s z ⟨kd, at_, wd⟩ = 0) := by
            show _ = _
            rw [HPE.out, if_neg (by decide), if_neg (by intro hh; exact hh.1 k1)]
          subst k1
          go_wp2
          go_ret
          rw [HQ.out]
          exact ⟨rfl, G6.out⟩
        · have k1b : (kd == 1) = false := by simpa using k1
          have k1c : (kd != 1) = true := by simpa using k1
          by_cases m4 : z.works.length = 400
          · have HQ : Hid (pilE p s z ⟨kd, at_, wd⟩ = 3) := by
              show _ = _
              rw [HPE.out, if_neg (by decide), if_pos ⟨k1, m4⟩]
            have m4b : ((z.works.length : Int) == 400) = true := by rw [m4]; rfl
            go_wp2
            go_ret
            rw [HQ.out]
            exact ⟨rfl, G6.out⟩
          · have HQ : Hid (pilE p s z ⟨kd, at_, wd⟩ = 0) := by
              show _ = _
              rw [HPE.out, if_neg (by decide), if_neg (by intro hh; exact m4 hh.2)]
            have m4b : ((z.works.length : Int) == 400) = false := by simp; omega
            go_wp2
            go_ret
            rw [HQ.out]
            exact ⟨rfl, G6.out⟩
      · have HQ : Hid (pilE p s z ⟨kd, at_, wd⟩ = er) := by
          show _ = _
          rw [HPE.out, if_pos e0]
        have e0b : (er != 0) = true := by simpa using e0
        go_wp2
        go_ret
        rw [HQ.out]
        exact ⟨rfl, G6.out⟩
  · rw [show handL z.hands = [] from if_neg h0] at HPE
    obtain ⟨er, her⟩ : ∃ er, er = csE p s ([] ++ [⟨kd, at_, wd⟩]) := ⟨_, rfl⟩
    rw [← her] at HPE
    have HER := Lib.hid her
    clear her
    have HWS : Hid (∀ x ∈ ([] : List Wk) ++ [⟨kd, at_, wd⟩], x.word.size ≤ 9223372036854775807) := fun x hx => by
      rw [List.mem_singleton.1 hx]; exact hwd
    have F := F0
    have z0 : W.heap.size + 1 ≤ (W.alloc (.cells #[.int .i64 kd, .int .i64 at_, .string wd] 35)).heap.size := by simp
    have K0 : Below W.heap.size W (W.alloc (.cells #[.int .i64 kd, .int .i64 at_, .string wd] 35)) := by go_grown
    go_enter Try.func34, Try.ntmps34
    go_wp2
    generalize W.alloc (.cells #[.int .i64 kd, .int .i64 at_, .string wd] 35) = W0 at *
    clear F0 a0 a1 a2 a5
    refine wp_region_noPanic ?_
    refine wp_region_B (fun b w' => w'.cell? ⟨g, 0, none⟩ = some (.int .i64 p) ∧ w'.cell? ⟨g, 1, none⟩ = some (.int .i64 s) ∧ w'.cell? ⟨W.heap.size, 0, none⟩ = some (.int .i64 kd) ∧ w'.cell? ⟨W.heap.size, 1, none⟩ = some (.int .i64 at_) ∧ w'.cell? ⟨W.heap.size, 2, none⟩ = some (.string wd) ∧ (b = false → True)) 20 (by kernel_rfl) ?_
    have Bd : Below (W.heap.size + 1) W0 W0.drew := (Below.refl _ _).drew
    have od : W0.drew.ownsRow (W.heap.size + 1) 35 3 (.slice none 0 0) 0 (wksCells []) := (World.ownsRow_nil _ _ _ _)
    have zd : W.heap.size + 1 ≤ W0.drew.heap.size := z0
    generalize W0.drew = Wd at *
    refine wpAnyB_take (i := 0) (oi := _) (v := ?vvtb1) (fun w' => w'.cell? ⟨g, 0, none⟩ = some (.int .i64 p) ∧ w'.cell? ⟨g, 1, none⟩ = some (.int .i64 s) ∧ w'.cell? ⟨W.heap.size, 0, none⟩ = some (.int .i64 kd) ∧ w'.cell? ⟨W.heap.size, 1, none⟩ = some (.int .i64 at_) ∧ w'.cell? ⟨W.heap.size, 2, none⟩ = some (.string wd)) rfl (by kernel_rfl) (by kernel_rfl) (by kernel_rfl) (by kernel_rfl) (by rfl) (fun _ h => ⟨h.1, h.2.1, h.2.2.1, h.2.2.2.1, h.2.2.2.2.1⟩) (.inl fun _ h => ⟨h.1, h.2.1, h.2.2.1, h.2.2.2.1, h.2.2.2.2.1⟩) (fun _ _ _ h => h) (.inl ⟨by rfl, ?hytb1⟩) ⟨(F.out _ Bd).1, (F.out _ Bd).2.1, (F.out _ Bd).2.2.1, (F.out _ Bd).2.2.2.1, (F.out _ Bd).2.2.2.2.1, fun _ => trivial⟩ ?_
    case hytb1 =>
      intro w' hSw
      try dsimp only at hSw
      go_simp
      all_goals with_reducible rfl
    try simp only [Act.put, List.setIfInBounds_toArray]
    refine wpAnyB_take (i := 1) (oi := _) (v := ?vvtb2) (fun w' => w'.cell? ⟨g, 0, none⟩ = some (.int .i64 p) ∧ w'.cell? ⟨g, 1, none⟩ = some (.int .i64 s) ∧ w'.cell? ⟨W.heap.size, 0, none⟩ = some (.int .i64 kd) ∧ w'.cell? ⟨W.heap.size, 1, none⟩ = some (.int .i64 at_) ∧ w'.cell? ⟨W.heap.size, 2, none⟩ = some (.string wd)) rfl (by kernel_rfl) (by kernel_rfl) (by kernel_rfl) (by kernel_rfl) (by rfl) (fun _ h => ⟨h.1, h.2.1, h.2.2.1, h.2.2.2.1, h.2.2.2.2.1⟩) (.inl fun _ h => ⟨h.1, h.2.1, h.2.2.1, h.2.2.2.1, h.2.2.2.2.1⟩) (fun _ _ _ h => h) (.inl ⟨by rfl, ?hytb2⟩) ⟨(F.out _ Bd).1, (F.out _ Bd).2.1, (F.out _ Bd).2.2.1, (F.out _ Bd).2.2.2.1, (F.out _ Bd).2.2.2.2.1, fun _ => trivial⟩ ?_
    case hytb2 =>
      intro w' hSw
      try dsimp only at hSw
      go_simp
      all_goals with_reducible rfl
    try simp only [Act.put]
    refine wpAnyB_take (i := 2) (oi := _) (v := ?vvtb3) (fun w' => w'.cell? ⟨g, 0, none⟩ = some (.int .i64 p) ∧ w'.cell? ⟨g, 1, none⟩ = some (.int .i64 s) ∧ w'.cell? ⟨W.heap.size, 0, none⟩ = some (.int .i64 kd) ∧ w'.cell? ⟨W.heap.size, 1, none⟩ = some (.int .i64 at_) ∧ w'.cell? ⟨W.heap.size, 2, none⟩ = some (.string wd)) rfl (by kernel_rfl) (by kernel_rfl) (by kernel_rfl) (by kernel_rfl) (by rfl) (fun _ h => ⟨h.1, h.2.1, h.2.2.1, h.2.2.2.1, h.2.2.2.2.1⟩) (.inl fun _ h => ⟨h.1, h.2.1, h.2.2.1, h.2.2.2.1, h.2.2.2.2.1⟩) (fun _ _ _ h => h) (.inl ⟨by rfl, ?hytb3⟩) ⟨(F.out _ Bd).1, (F.out _ Bd).2.1, (F.out _ Bd).2.2.1, (F.out _ Bd).2.2.2.1, (F.out _ Bd).2.2.2.2.1, fun _ => trivial⟩ ?_
    case hytb3 =>
      intro w' hSw
      try dsimp only at hSw
      go_simp
      all_goals with_reducible rfl
    try simp only [Act.put]
    refine wpAnyB_take (i := 3) (oi := _) (v := ?vvtb4) (fun w' => w'.cell? ⟨g, 0, none⟩ = some (.int .i64 p) ∧ w'.cell? ⟨g, 1, none⟩ = some (.int .i64 s) ∧ w'.cell? ⟨W.heap.size, 0, none⟩ = some (.int .i64 kd) ∧ w'.cell? ⟨W.heap.size, 1, none⟩ = some (.int .i64 at_) ∧ w'.cell? ⟨W.heap.size, 2, none⟩ = some (.string wd)) rfl (by kernel_rfl) (by kernel_rfl) (by kernel_rfl) (by kernel_rfl) (by rfl) (fun _ h => ⟨h.1, h.2.1, h.2.2.1, h.2.2.2.1, h.2.2.2.2.1⟩) (.inl fun _ h => ⟨h.1, h.2.1, h.2.2.1, h.2.2.2.1, h.2.2.2.2.1⟩) (fun _ _ _ h => h) (.inl ⟨by rfl, ?hytb4⟩) ⟨(F.out _ Bd).1, (F.out _ Bd).2.1, (F.out _ Bd).2.2.1, (F.out _ Bd).2.2.2.1, (F.out _ Bd).2.2.2.2.1, fun _ => trivial⟩ ?_
    case hytb4 =>
      intro w' hSw
      try dsimp only at hSw
      go_simp
      all_goals with_reducible rfl
    try simp only [Act.put]
    refine wpAnyB_take (i := 4) (oi := _) (v := ?vvtb5) (fun w' => w'.cell? ⟨g, 0, none⟩ = some (.int .i64 p) ∧ w'.cell? ⟨g, 1, none⟩ = some (.int .i64 s) ∧ w'.cell? ⟨W.heap.size, 0, none⟩ = some (.int .i64 kd) ∧ w'.cell? ⟨W.heap.size, 1, none⟩ = some (.int .i64 at_) ∧ w'.cell? ⟨W.heap.size, 2, none⟩ = some (.string wd)) rfl (by kernel_rfl) (by kernel_rfl) (by kernel_rfl) (by kernel_rfl) (by rfl) (fun _ h => ⟨h.1, h.2.1, h.2.2.1, h.2.2.2.1, h.2.2.2.2.1⟩) (.inl fun _ h => ⟨h.1, h.2.1, h.2.2.1, h.2.2.2.1, h.2.2.2.2.1⟩) (fun _ _ _ h => h) (.inl ⟨by rfl, ?hytb5⟩) ⟨(F.out _ Bd).1, (F.out _ Bd).2.1, (F.out _ Bd).2.2.1, (F.out _ Bd).2.2.2.1, (F.out _ Bd).2.2.2.2.1, fun _ => trivial⟩ ?_
    case hytb5 =>
      intro w' hSw
      try dsimp only at hSw
      go_simp
      all_goals with_reducible rfl
    try simp only [Act.put]
    refine wpAnyB_take (i := 5) (oi := _) (v := ?vvtb6) (fun w' => w'.cell? ⟨g, 0, none⟩ = some (.int .i64 p) ∧ w'.cell? ⟨g, 1, none⟩ = some (.int .i64 s) ∧ w'.cell? ⟨W.heap.size, 0, none⟩ = some (.int .i64 kd) ∧ w'.cell? ⟨W.heap.size, 1, none⟩ = some (.int .i64 at_) ∧ w'.cell? ⟨W.heap.size, 2, none⟩ = some (.string wd)) rfl (by kernel_rfl) (by kernel_rfl) (by kernel_rfl) (by kernel_rfl) (by rfl) (fun _ h => ⟨h.1, h.2.1, h.2.2.1, h.2.2.2.1, h.2.2.2.2.1⟩) (.inl fun _ h => ⟨h.1, h.2.1, h.2.2.1, h.2.2.2.1, h.2.2.2.2.1⟩) (fun _ _ _ h => h) (.inl ⟨by rfl, ?hytb6⟩) ⟨(F.out _ Bd).1, (F.out _ Bd).2.1, (F.out _ Bd).2.2.1, (F.out _ Bd).2.2.2.1, (F.out _ Bd).2.2.2.2.1, fun _ => trivial⟩ ?_
    case hytb6 =>
      intro w' hSw
      try dsimp only at hSw
      go_simp
      all_goals with_reducible rfl
    try simp only [Act.put]
    refine wpAnyB_take (i := 6) (oi := _) (v := ?vvtb7) (fun w' => w'.cell? ⟨g, 0, none⟩ = some (.int .i64 p) ∧ w'.cell? ⟨g, 1, none⟩ = some (.int .i64 s) ∧ w'.cell? ⟨W.heap.size, 0, none⟩ = some (.int .i64 kd) ∧ w'.cell? ⟨W.heap.size, 1, none⟩ = some (.int .i64 at_) ∧ w'.cell? ⟨W.heap.size, 2, none⟩ = some (.string wd)) rfl (by kernel_rfl) (by kernel_rfl) (by kernel_rfl) (by kernel_rfl) (by rfl) (fun _ h => ⟨h.1, h.2.1, h.2.2.1, h.2.2.2.1, h.2.2.2.2.1⟩) (.inl fun _ h => ⟨h.1, h.2.1, h.2.2.1, h.2.2.2.1, h.2.2.2.2.1⟩) (fun _ _ _ h => h) (.inl ⟨by rfl, ?hytb7⟩) ⟨(F.out _ Bd).1, (F.out _ Bd).2.1, (F.out _ Bd).2.2.1, (F.out _ Bd).2.2.2.1, (F.out _ Bd).2.2.2.2.1, fun _ => trivial⟩ ?_
    case hytb7 =>
      intro w' hSw
      try dsimp only at hSw
      go_simp
      all_goals with_reducible rfl
    try simp only [Act.put]
    refine wpAnyB_take (i := 7) (oi := _) (v := ?vvtb8) (fun w' => w'.cell? ⟨g, 0, none⟩ = some (.int .i64 p) ∧ w'.cell? ⟨g, 1, none⟩ = some (.int .i64 s) ∧ w'.cell? ⟨W.heap.size, 0, none⟩ = some (.int .i64 kd) ∧ w'.cell? ⟨W.heap.size, 1, none⟩ = some (.int .i64 at_) ∧ w'.cell? ⟨W.heap.size, 2, none⟩ = some (.string wd)) rfl (by kernel_rfl) (by kernel_rfl) (by kernel_rfl) (by kernel_rfl) (by rfl) (fun _ h => ⟨h.1, h.2.1, h.2.2.1, h.2.2.2.1, h.2.2.2.2.1⟩) (.inl fun _ h => ⟨h.1, h.2.1, h.2.2.1, h.2.2.2.1, h.2.2.2.2.1⟩) (fun _ _ _ h => h) (.inl ⟨by rfl, ?hytb8⟩) ⟨(F.out _ Bd).1, (F.out _ Bd).2.1, (F.out _ Bd).2.2.1, (F.out _ Bd).2.2.2.1, (F.out _ Bd).2.2.2.2.1, fun _ => trivial⟩ ?_
    case hytb8 =>
      intro w' hSw
      try dsimp only at hSw
      go_simp
      all_goals with_reducible rfl
    try simp only [Act.put]
    refine wpAnyB_take (i := 8) (oi := _) (v := ?vvtb9) (fun w' => w'.cell? ⟨g, 0, none⟩ = some (.int .i64 p) ∧ w'.cell? ⟨g, 1, none⟩ = some (.int .i64 s) ∧ w'.cell? ⟨W.heap.size, 0, none⟩ = some (.int .i64 kd) ∧ w'.cell? ⟨W.heap.size, 1, none⟩ = some (.int .i64 at_) ∧ w'.cell? ⟨W.heap.size, 2, none⟩ = some (.string wd)) rfl (by kernel_rfl) (by kernel_rfl) (by kernel_rfl) (by kernel_rfl) (by rfl) (fun _ h => ⟨h.1, h.2.1, h.2.2.1, h.2.2.2.1, h.2.2.2.2.1⟩) (.inl fun _ h => ⟨h.1, h.2.1, h.2.2.1, h.2.2.2.1, h.2.2.2.2.1⟩) (fun _ _ _ h => h) (.inl ⟨by rfl, ?hytb9⟩) ⟨(F.out _ Bd).1, (F.out _ Bd).2.1, (F.out _ Bd).2.2.1, (F.out _ Bd).2.2.2.1, (F.out _ Bd).2.2.2.2.1, fun _ => trivial⟩ ?_
    case hytb9 =>
      intro w' hSw
      try dsimp only at hSw
      go_simp
      all_goals with_reducible rfl
    try simp only [Act.put]
    refine wpAnyB_take (i := 9) (oi := _) (v := ?vvtb10) (fun w' => w'.cell? ⟨g, 0, none⟩ = some (.int .i64 p) ∧ w'.cell? ⟨g, 1, none⟩ = some (.int .i64 s) ∧ w'.cell? ⟨W.heap.size, 0, none⟩ = some (.int .i64 kd) ∧ w'.cell? ⟨W.heap.size, 1, none⟩ = some (.int .i64 at_) ∧ w'.cell? ⟨W.heap.size, 2, none⟩ = some (.string wd)) rfl (by kernel_rfl) (by kernel_rfl) (by kernel_rfl) (by kernel_rfl) (by rfl) (fun _ h => ⟨h.1, h.2.1, h.2.2.1, h.2.2.2.1, h.2.2.2.2.1⟩) (.inl fun _ h => ⟨h.1, h.2.1, h.2.2.1, h.2.2.2.1, h.2.2.2.2.1⟩) (fun _ _ _ h => h) (.inl ⟨by rfl, ?hytb10⟩) ⟨(F.out _ Bd).1, (F.out _ Bd).2.1, (F.out _ Bd).2.2.1, (F.out _ Bd).2.2.2.1, (F.out _ Bd).2.2.2.2.1, fun _ => trivial⟩ ?_
    case hytb10 =>
      intro w' hSw
      try dsimp only at hSw
      go_simp
      all_goals with_reducible rfl
    try simp only [Act.put]
    refine wpAnyB_two (i := 10) (j := 17) false rfl rfl (by kernel_rfl) (by kernel_rfl) (by kernel_rfl) ?_ ?_
    · intro KK hKK
      go_simp
      have Bb11 := Bd.alloc zd (.cells #[.int .i64 kd, .int .i64 at_, .string wd] 35)
      have zb12 : W.heap.size + 1 ≤ (Wd.alloc (.cells #[.int .i64 kd, .int .i64 at_, .string wd] 35)).heap.size := by simp; omega
      have ob13 := own_below od ((Below.refl Wd.heap.size Wd).alloc (Nat.le_refl _) (.cells #[.int .i64 kd, .int .i64 at_, .string wd] 35))
      have Nb16 : Wd.heap.size < (Wd.alloc (.cells #[.int .i64 kd, .int .i64 at_, .string wd] 35)).heap.size ∧ ∀ p u, ([.int .i64 kd, .int .i64 at_, .string wd] : List Value)[p]? = some u → (Wd.alloc (.cells #[.int .i64 kd, .int .i64 at_, .string wd] 35)).cell? ⟨Wd.heap.size, p, none⟩ = some u := ⟨by simp, fun p u hu => ((Has.new (w := Wd) (t := 35) (cs := [.int .i64 kd, .int .i64 at_, .string wd]) rfl).cell p).trans hu⟩
      generalize (Wd.alloc (.cells #[.int .i64 kd, .int .i64 at_, .string wd] 35)) = Wb15 at *
      refine hKK.out _ _ ⟨(F.out _ Bb11).1, (F.out _ Bb11).2.1, (F.out _ Bb11).2.2.1, (F.out _ Bb11).2.2.2.1, (F.out _ Bb11).2.2.2.2.1, fun _ => trivial⟩ ?_
      clear hKK KK
      try simp only [Act.put, List.setIfInBounds_toArray, List.set_cons_zero, List.set_cons_succ]
      refine wpAnyB_two (i := 11) (j := 17) false rfl rfl (by kernel_rfl) (by kernel_rfl) (by kernel_rfl) ?_ ?_
      · intro KK hKK
        refine step_appN rfl (.tmp 31) (.tmp 33) 25 rfl (W.heap.size + 1) 35 (.agg #[.int .i64 0, .int .i64 0, .string ⟨#[]⟩]) 3 32 Try.underlying25 infoCs rfl (by omega) (by omega) (.slice none 0 0) 0 (wksCells []) rfl ob13 ⟨Wd.heap.size, 0, none⟩ 1 1 [.int .i64 kd, .int .i64 at_, .string wd] rfl rfl (fun j u hu => by rw [Addr.add_lit, Nat.zero_add]; exact Nb16.2 j u hu) (by simp [Value.oneCell']) (by omega) (by omega) ?_
        intro v' Wb26 ob24 hgrow4 hnil4 hor4
        obtain ⟨A4, c4, rfl⟩ := own_form ob24
        have zb23 := Nat.le_trans zb12 hgrow4.size
        have Bb22 := Bb11.grown hgrow4 zb12 (fun k hk => (ob13.lt k hk).1)
        refine hKK.out _ _ ⟨(F.out _ Bb22).1, (F.out _ Bb22).2.1, (F.out _ Bb22).2.2.1, (F.out _ Bb22).2.2.2.1, (F.out _ Bb22).2.2.2.2.1, fun _ => trivial⟩ ?_
        clear hKK KK
        try simp only [Act.put, List.setIfInBounds_toArray]
        refine wpAnyB_two (i := 12) (j := 17) false rfl rfl (by kernel_rfl) (by kernel_rfl) (by kernel_rfl) ?_ ?_
        · intro KK hKK
          have CS := csheet p s A4 (0 + 1) c4 ([] ++ [⟨kd, at_, wd⟩]) Wb26 (by decide) (own_rdW (by rw [wksCells_app]; exact ob24)) rfl HWS.out
          rw [← HER.out] at CS
          go_simp
          go_at_call 32
          refine CS.mono ?_
          rintro e Wb37 ⟨p5, A5, n5, c5, b5, rfl, hb5⟩
          have Bb33 := Bb22.trans (hb5.mono zb23)
          have zb34 := Nat.le_trans zb23 hb5.size
          refine hKK.out _ _ ⟨(F.out _ Bb33).1, (F.out _ Bb33).2.1, (F.out _ Bb33).2.2.1, (F.out _ Bb33).2.2.2.1, (F.out _ Bb33).2.2.2.2.1, fun _ => trivial⟩ ?_
          clear hKK KK
          try simp only [Act.put, List.setIfInBounds_toArray, List.set_cons_zero, List.set_cons_succ]
          refine wpAnyB_take (i := 13) (oi := _) (v := ?vvtb43) (fun w' => w'.cell? ⟨g, 0, none⟩ = some (.int .i64 p) ∧ w'.cell? ⟨g, 1, none⟩ = some (.int .i64 s) ∧ w'.cell? ⟨W.heap.size, 0, none⟩ = some (.int .i64 kd) ∧ w'.cell? ⟨W.heap.size, 1, none⟩ = some (.int .i64 at_) ∧ w'.cell? ⟨W.heap.size, 2, none⟩ = some (.string wd)) rfl (by kernel_rfl) (by kernel_rfl) (by kernel_rfl) (by kernel_rfl) (by rfl) (fun _ h => ⟨h.1, h.2.1, h.2.2.1, h.2.2.2.1, h.2.2.2.2.1⟩) (.inl fun _ h => ⟨h.1, h.2.1, h.2.2.1, h.2.2.2.1, h.2.2.2.2.1⟩) (fun _ _ _ h => h) (.inl ⟨by rfl, ?hytb43⟩) ⟨(F.out _ Bb33).1, (F.out _ Bb33).2.1, (F.out _ Bb33).2.2.1, (F.out _ Bb33).2.2.2.1, (F.out _ Bb33).2.2.2.2.1, fun _ => trivial⟩ ?_
          case hytb43 =>
            intro w' hSw
            try dsimp only at hSw
            go_simp
            all_goals with_reducible rfl
          try simp only [Act.put, List.setIfInBounds_toArray]
          refine wpAnyB_take (i := 14) (oi := _) (v := ?vvtb44) (fun w' => w'.cell? ⟨g, 0, none⟩ = some (.int .i64 p) ∧ w'.cell? ⟨g, 1, none⟩ = some (.int .i64 s) ∧ w'.cell? ⟨W.heap.size, 0, none⟩ = some (.int .i64 kd) ∧ w'.cell? ⟨W.heap.size, 1, none⟩ = some (.int .i64 at_) ∧ w'.cell? ⟨W.heap.size, 2, none⟩ = some (.string wd)) rfl (by kernel_rfl) (by kernel_rfl) (by kernel_rfl) (by kernel_rfl) (by rfl) (fun _ h => ⟨h.1, h.2.1, h.2.2.1, h.2.2.2.1, h.2.2.2.2.1⟩) (.inl fun _ h => ⟨h.1, h.2.1, h.2.2.1, h.2.2.2.1, h.2.2.2.2.1⟩) (fun _ _ _ h => h) (.inl ⟨by rfl, ?hytb44⟩) ⟨(F.out _ Bb33).1, (F.out _ Bb33).2.1, (F.out _ Bb33).2.2.1, (F.out _ Bb33).2.2.2.1, (F.out _ Bb33).2.2.2.2.1, fun _ => trivial⟩ ?_
          case hytb44 =>
            intro w' hSw
            try dsimp only at hSw
            go_simp
            all_goals with_reducible rfl
          try simp only [Act.put]
          refine wpAnyB_take (i := 15) (oi := _) (v := ?vvtb45) (fun w' => w'.cell? ⟨g, 0, none⟩ = some (.int .i64 p) ∧ w'.cell? ⟨g, 1, none⟩ = some (.int .i64 s) ∧ w'.cell? ⟨W.heap.size, 0, none⟩ = some (.int .i64 kd) ∧ w'.cell? ⟨W.heap.size, 1, none⟩ = some (.int .i64 at_) ∧ w'.cell? ⟨W.heap.size, 2, none⟩ = some (.string wd)) rfl (by kernel_rfl) (by kernel_rfl) (by kernel_rfl) (by kernel_rfl) (by rfl) (fun _ h => ⟨h.1, h.2.1, h.2.2.1, h.2.2.2.1, h.2.2.2.2.1⟩) (.inl fun _ h => ⟨h.1, h.2.1, h.2.2.1, h.2.2.2.1, h.2.2.2.2.1⟩) (fun _ _ _ h => h) (.inl ⟨by rfl, ?hytb45⟩) ⟨(F.out _ Bb33).1, (F.out _ Bb33).2.1, (F.out _ Bb33).2.2.1, (F.out _ Bb33).2.2.2.1, (F.out _ Bb33).2.2.2.2.1, fun _ => trivial⟩ ?_
          case hytb45 =>
            intro w' hSw
            try dsimp only at hSw
            go_simp
            all_goals with_reducible rfl
          try simp only [Act.put]
          refine wpAnyB_take (i := 16) (oi := _) (v := ?vvtb46) (fun w' => w'.cell? ⟨g, 0, none⟩ = some (.int .i64 p) ∧ w'.cell? ⟨g, 1, none⟩ = some (.int .i64 s) ∧ w'.cell? ⟨W.heap.size, 0, none⟩ = some (.int .i64 kd) ∧ w'.cell? ⟨W.heap.size, 1, none⟩ = some (.int .i64 at_) ∧ w'.cell? ⟨W.heap.size, 2, none⟩ = some (.string wd)) rfl (by kernel_rfl) (by kernel_rfl) (by kernel_rfl) (by kernel_rfl) (by rfl) (fun _ h => ⟨h.1, h.2.1, h.2.2.1, h.2.2.2.1, h.2.2.2.2.1⟩) (.inl fun _ h => ⟨h.1, h.2.1, h.2.2.1, h.2.2.2.1, h.2.2.2.2.1⟩) (fun _ _ _ h => h) (.inl ⟨by rfl, ?hytb46⟩) ⟨(F.out _ Bb33).1, (F.out _ Bb33).2.1, (F.out _ Bb33).2.2.1, (F.out _ Bb33).2.2.2.1, (F.out _ Bb33).2.2.2.2.1, fun _ => trivial⟩ ?_
          case hytb46 =>
            intro w' hSw
            try dsimp only at hSw
            go_simp
            all_goals with_reducible rfl
          try simp only [Act.put]
          refine wpAnyB_one (i := 17) false rfl (by kernel_rfl) (by kernel_rfl) ?_
          intro KK hKK
          go_simp
          have Bb47 := Bb33.alloc zb34 (.cells #[.int .i64 0, .slice none 0 0] 24)
          have zb48 : W.heap.size + 1 ≤ (Wb37.alloc (.cells #[.int .i64 0, .slice none 0 0] 24)).heap.size := by simp; omega
          have Kb50 : Has (Wb37.alloc (.cells #[.int .i64 0, .slice none 0 0] 24)) Wb37.heap.size 24 [.int .i64 0, .slice none 0 0] := Has.new rfl
          generalize (Wb37.alloc (.cells #[.int .i64 0, .slice none 0 0] 24)) = Wb51 at *
          refine hKK.out _ _ ⟨(F.out _ Bb47).1, (F.out _ Bb47).2.1, (F.out _ Bb47).2.2.1, (F.out _ Bb47).2.2.2.1, (F.out _ Bb47).2.2.2.2.1, fun _ => trivial⟩ ?_
          clear hKK KK
          try simp only [Act.put, List.setIfInBounds_toArray, List.set_cons_zero, List.set_cons_succ]
          refine wpAnyB_one (i := 18) false rfl (by kernel_rfl) (by kernel_rfl) ?_
          intro KK hKK
          have k0 := Kb50.cell 0
          have k1 := Kb50.cell 1
          have f0 := Kb50.free 0
          have f1 := Kb50.free 1
          have q8 := Kb50.lt
          go_simp
          have Bb52 := (Bb47.setCell (p := ⟨Wb37.heap.size, 0, none⟩) (by show _ ≤ Wb37.heap.size; omega) (.int .i64 p5)).setCell (p := ⟨Wb37.heap.size, 1, none⟩) (by show _ ≤ Wb37.heap.size; omega) (.slice A5 n5 c5)
          generalize ((Wb51.setCell ⟨Wb37.heap.size, 0, none⟩ (.int .i64 p5)).setCell ⟨Wb37.heap.size, 1, none⟩ (.slice A5 n5 c5)) = w6 at *
          refine hKK.out _ _ ⟨(F.out _ Bb52).1, (F.out _ Bb52).2.1, (F.out _ Bb52).2.2.1, (F.out _ Bb52).2.2.2.1, (F.out _ Bb52).2.2.2.2.1, fun _ => trivial⟩ ?_
          clear hKK KK
          try simp only [Act.put, List.setIfInBounds_toArray, List.set_cons_zero, List.set_cons_succ]
          refine wpAnyB_take (i := 19) (oi := _) (v := ?vvtb53) (fun w' => w'.cell? ⟨g, 0, none⟩ = some (.int .i64 p) ∧ w'.cell? ⟨g, 1, none⟩ = some (.int .i64 s) ∧ w'.cell? ⟨W.heap.size, 0, none⟩ = some (.int .i64 kd) ∧ w'.cell? ⟨W.heap.size, 1, none⟩ = some (.int .i64 at_) ∧ w'.cell? ⟨W.heap.size, 2, none⟩ = some (.string wd)) rfl (by kernel_rfl) (by kernel_rfl) (by kernel_rfl) (by kernel_rfl) (by rfl) (fun _ h => ⟨h.1, h.2.1, h.2.2.1, h.2.2.2.1, h.2.2.2.2.1⟩) (.inl fun _ h => ⟨h.1, h.2.1, h.2.2.1, h.2.2.2.1, h.2.2.2.2.1⟩) (fun _ _ _ h => h) (.inl ⟨by rfl, ?hytb53⟩) ⟨(F.out _ Bb52).1, (F.out _ Bb52).2.1, (F.out _ Bb52).2.2.1, (F.out _ Bb52).2.2.2.1, (F.out _ Bb52).2.2.2.2.1, fun _ => trivial⟩ ?_
          case hytb53 =>
            intro w' hSw
            try dsimp only at hSw
            go_simp
            all_goals with_reducible rfl
          try simp only [Act.put, List.setIfInBounds_toArray]
          refine wpAnyB_one (i := 20) true rfl (by kernel_rfl) (by kernel_rfl) ?_
          intro KK hKK
          go_simp
          refine hKK.out _ _ ⟨(F.out _ Bb52).1, (F.out _ Bb52).2.1, (F.out _ Bb52).2.2.1, (F.out _ Bb52).2.2.2.1, (F.out _ Bb52).2.2.2.2.1, fun hh => by cases hh⟩ ?_
          clear hKK KK
          try simp only [Act.put, List.setIfInBounds_toArray, List.set_cons_zero, List.set_cons_succ]
          refine wpAnyB_done (by kernel_rfl) (NoPanic.normal ?_) _
          have B6 := Bb52
          have F6 := Lib.hid (F.out _ B6)
          have G6 := Lib.hid (K0.trans (B6.mono (Nat.le_succ _)))
          have c3 := F6.out.2.2.1
          have c4' := F6.out.2.2.2.2.2
          by_cases e0 : er = 0
          · subst e0
            by_cases k1 : kd = 1
            · have HQ : Hid (pilE p s z ⟨kd, at_, wd⟩ = 0) := by
                show _ = _
                rw [HPE.out, if_neg (by decide), if_neg (by intro hh; exact hh.1 k1)]
              subst k1
              go_wp2
              go_ret
              rw [HQ.out]
              exact ⟨rfl, G6.out⟩
            · have k1b : (kd == 1) = false := by simpa using k1
              have k1c : (kd != 1) = true := by simpa using k1
              by_cases m4 : z.works.length = 400
              · have HQ : Hid (pilE p s z ⟨kd, at_, wd⟩ = 3) := by
                  show _ = _
                  rw [HPE.out, if_neg (by decide), if_pos ⟨k1, m4⟩]
                have m4b : ((z.works.length : Int) == 400) = true := by rw [m4]; rfl
                go_wp2
                go_ret
                rw [HQ.out]
                exact ⟨rfl, G6.out⟩
              · have HQ : Hid (pilE p s z ⟨kd, at_, wd⟩ = 0) := by
                  show _ = _
                  rw [HPE.out, if_neg (by decide), if_neg (by intro hh; exact m4 hh.2)]
                have m4b : ((z.works.length : Int) == 400) = false := by simp; omega
                go_wp2
                go_ret
                rw [HQ.out]
                exact ⟨rfl, G6.out⟩
          · have HQ : Hid (pilE p s z ⟨kd, at_, wd⟩ = er) := by
              show _ = _
              rw [HPE.out, if_pos e0]
            have e0b : (er != 0) = true := by simpa using e0
            go_wp2
            go_ret
            rw [HQ.out]
            exact ⟨rfl, G6.out⟩
        · intro KK hKK
          go_simp
          have Bb38 := Bb22.alloc zb23 (.cells #[.int .i64 0, .slice none 0 0] 24)
          have zb39 : W.heap.size + 1 ≤ (Wb26.alloc (.cells #[.int .i64 0, .slice none 0 0] 24)).heap.size := by simp; omega
          have ob40 := own_below ob24 ((Below.refl Wb26.heap.size Wb26).alloc (Nat.le_refl _) (.cells #[.int .i64 0, .slice none 0 0] 24))
          have Kb41 : Has (Wb26.alloc (.cells #[.int .i64 0, .slice none 0 0] 24)) Wb26.heap.size 24 [.int .i64 0, .slice none 0 0] := Has.new rfl
          generalize (Wb26.alloc (.cells #[.int .i64 0, .slice none 0 0] 24)) = Wb42 at *
          refine hKK.out _ _ ⟨(F.out _ Bb38).1, (F.out _ Bb38).2.1, (F.out _ Bb38).2.2.1, (F.out _ Bb38).2.2.2.1, (F.out _ Bb38).2.2.2.2.1, fun _ => trivial⟩ ?_
          clear hKK KK
          try simp only [Act.put, List.setIfInBounds_toArray, List.set_cons_zero, List.set_cons_succ]
          refine wpAnyB_one (i := 12) false rfl (by kernel_rfl) (by kernel_rfl) ?_
          intro KK hKK
          have CS := csheet p s A4 (0 + 1) c4 ([] ++ [⟨kd, at_, wd⟩]) Wb42 (by decide) (own_rdW (by rw [wksCells_app]; exact ob40)) rfl HWS.out
          rw [← HER.out] at CS
          go_simp
          go_at_call 32
          refine CS.mono ?_
          rintro e Wb58 ⟨p5, A5, n5, c5, b5, rfl, hb5⟩
          have Bb54 := Bb38.trans (hb5.mono zb39)
          have zb55 := Nat.le_trans zb39 hb5.size
          have Kb57 := Kb41.below hb5 Kb41.lt
          refine hKK.out _ _ ⟨(F.out _ Bb54).1, (F.out _ Bb54).2.1, (F.out _ Bb54).2.2.1, (F.out _ Bb54).2.2.2.1, (F.out _ Bb54).2.2.2.2.1, fun _ => trivial⟩ ?_
          clear hKK KK
          try simp only [Act.put, List.setIfInBounds_toArray, List.set_cons_zero, List.set_cons_succ]
          refine wpAnyB_take (i := 13) (oi := _) (v := ?vvtb59) (fun w' => w'.cell? ⟨g, 0, none⟩ = some (.int .i64 p) ∧ w'.cell? ⟨g, 1, none⟩ = some (.int .i64 s) ∧ w'.cell? ⟨W.heap.size, 0, none⟩ = some (.int .i64 kd) ∧ w'.cell? ⟨W.heap.size, 1, none⟩ = some (.int .i64 at_) ∧ w'.cell? ⟨W.heap.size, 2, none⟩ = some (.string wd)) rfl (by kernel_rfl) (by kernel_rfl) (by kernel_rfl) (by kernel_rfl) (by rfl) (fun _ h => ⟨h.1, h.2.1, h.2.2.1, h.2.2.2.1, h.2.2.2.2.1⟩) (.inl fun _ h => ⟨h.1, h.2.1, h.2.2.1, h.2.2.2.1, h.2.2.2.2.1⟩) (fun _ _ _ h => h) (.inl ⟨by rfl, ?hytb59⟩) ⟨(F.out _ Bb54).1, (F.out _ Bb54).2.1, (F.out _ Bb54).2.2.1, (F.out _ Bb54).2.2.2.1, (F.out _ Bb54).2.2.2.2.1, fun _ => trivial⟩ ?_
          case hytb59 =>
            intro w' hSw
            try dsimp only at hSw
            go_simp
            all_goals with_reducible rfl
          try simp only [Act.put, List.setIfInBounds_toArray]
          refine wpAnyB_take (i := 14) (oi := _) (v := ?vvtb60) (fun w' => w'.cell? ⟨g, 0, none⟩ = some (.int .i64 p) ∧ w'.cell? ⟨g, 1, none⟩ = some (.int .i64 s) ∧ w'.cell? ⟨W.heap.size, 0, none⟩ = some (.int .i64 kd) ∧ w'.cell? ⟨W.heap.size, 1, none⟩ = some (.int .i64 at_) ∧ w'.cell? ⟨W.heap.size, 2, none⟩ = some (.string wd)) rfl (by kernel_rfl) (by kernel_rfl) (by kernel_rfl) (by kernel_rfl) (by rfl) (fun _ h => ⟨h.1, h.2.1, h.2.2.1, h.2.2.2.1, h.2.2.2.2.1⟩) (.inl fun _ h => ⟨h.1, h.2.1, h.2.2.1, h.2.2.2.1, h.2.2.2.2.1⟩) (fun _ _ _ h => h) (.inl ⟨by rfl, ?hytb60⟩) ⟨(F.out _ Bb54).1, (F.out _ Bb54).2.1, (F.out _ Bb54).2.2.1, (F.out _ Bb54).2.2.2.1, (F.out _ Bb54).2.2.2.2.1, fun _ => trivial⟩ ?_
          case hytb60 =>
            intro w' hSw
            try dsimp only at hSw
            go_simp
            all_goals with_reducible rfl
          try simp only [Act.put]
          refine wpAnyB_take (i := 15) (oi := _) (v := ?vvtb61) (fun w' => w'.cell? ⟨g, 0, none⟩ = some (.int .i64 p) ∧ w'.cell? ⟨g, 1, none⟩ = some (.int .i64 s) ∧ w'.cell? ⟨W.heap.size, 0, none⟩ = some (.int .i64 kd) ∧ w'.cell? ⟨W.heap.size, 1, none⟩ = some (.int .i64 at_) ∧ w'.cell? ⟨W.heap.size, 2, none⟩ = some (.string wd)) rfl (by kernel_rfl) (by kernel_rfl) (by kernel_rfl) (by kernel_rfl) (by rfl) (fun _ h => ⟨h.1, h.2.1, h.2.2.1, h.2.2.2.1, h.2.2.2.2.1⟩) (.inl fun _ h => ⟨h.1, h.2.1, h.2.2.1, h.2.2.2.1, h.2.2.2.2.1⟩) (fun _ _ _ h => h) (.inl ⟨by rfl, ?hytb61⟩) ⟨(F.out _ Bb54).1, (F.out _ Bb54).2.1, (F.out _ Bb54).2.2.1, (F.out _ Bb54).2.2.2.1, (F.out _ Bb54).2.2.2.2.1, fun _ => trivial⟩ ?_
          case hytb61 =>
            intro w' hSw
            try dsimp only at hSw
            go_simp
            all_goals with_reducible rfl
          try simp only [Act.put]
          refine wpAnyB_take (i := 16) (oi := _) (v := ?vvtb62) (fun w' => w'.cell? ⟨g, 0, none⟩ = some (.int .i64 p) ∧ w'.cell? ⟨g, 1, none⟩ = some (.int .i64 s) ∧ w'.cell? ⟨W.heap.size, 0, none⟩ = some (.int .i64 kd) ∧ w'.cell? ⟨W.heap.size, 1, none⟩ = some (.int .i64 at_) ∧ w'.cell? ⟨W.heap.size, 2, none⟩ = some (.string wd)) rfl (by kernel_rfl) (by kernel_rfl) (by kernel_rfl) (by kernel_rfl) (by rfl) (fun _ h => ⟨h.1, h.2.1, h.2.2.1, h.2.2.2.1, h.2.2.2.2.1⟩) (.inl fun _ h => ⟨h.1, h.2.1, h.2.2.1, h.2.2.2.1, h.2.2.2.2.1⟩) (fun _ _ _ h => h) (.inl ⟨by rfl, ?hytb62⟩) ⟨(F.out _ Bb54).1, (F.out _ Bb54).2.1, (F.out _ Bb54).2.2.1, (F.out _ Bb54).2.2.2.1, (F.out _ Bb54).2.2.2.2.1, fun _ => trivial⟩ ?_
          case hytb62 =>
            intro w' hSw
            try dsimp only at hSw
            go_simp
            all_goals with_reducible rfl
          try simp only [Act.put]
          refine wpAnyB_one (i := 18) false rfl (by kernel_rfl) (by kernel_rfl) ?_
          intro KK hKK
          have k0 := Kb57.cell 0
          have k1 := Kb57.cell 1
          have f0 := Kb57.free 0
          have f1 := Kb57.free 1
          have q8 := Kb57.lt
          go_simp
          have Bb63 := (Bb54.setCell (p := ⟨Wb26.heap.size, 0, none⟩) (by show _ ≤ Wb26.heap.size; omega) (.int .i64 p5)).setCell (p := ⟨Wb26.heap.size, 1, none⟩) (by show _ ≤ Wb26.heap.size; omega) (.slice A5 n5 c5)
          generalize ((Wb58.setCell ⟨Wb26.heap.size, 0, none⟩ (.int .i64 p5)).setCell ⟨Wb26.heap.size, 1, none⟩ (.slice A5 n5 c5)) = w6 at *
          refine hKK.out _ _ ⟨(F.out _ Bb63).1, (F.out _ Bb63).2.1, (F.out _ Bb63).2.2.1, (F.out _ Bb63).2.2.2.1, (F.out _ Bb63).2.2.2.2.1, fun _ => trivial⟩ ?_
          clear hKK KK
          try simp only [Act.put, List.setIfInBounds_toArray, List.set_cons_zero, List.set_cons_succ]
          refine wpAnyB_take (i := 19) (oi := _) (v := ?vvtb64) (fun w' => w'.cell? ⟨g, 0, none⟩ = some (.int .i64 p) ∧ w'.cell? ⟨g, 1, none⟩ = some (.int .i64 s) ∧ w'.cell? ⟨W.heap.size, 0, none⟩ = some (.int .i64 kd) ∧ w'.cell? ⟨W.heap.size, 1, none⟩ = some (.int .i64 at_) ∧ w'.cell? ⟨W.heap.size, 2, none⟩ = some (.string wd)) rfl (by kernel_rfl) (by kernel_rfl) (by kernel_rfl) (by kernel_rfl) (by rfl) (fun _ h => ⟨h.1, h.2.1, h.2.2.1, h.2.2.2.1, h.2.2.2.2.1⟩) (.inl fun _ h => ⟨h.1, h.2.1, h.2.2.1, h.2.2.2.1, h.2.2.2.2.1⟩) (fun _ _ _ h => h) (.inl ⟨by rfl, ?hytb64⟩) ⟨(F.out _ Bb63).1, (F.out _ Bb63).2.1, (F.out _ Bb63).2.2.1, (F.out _ Bb63).2.2.2.1, (F.out _ Bb63).2.2.2.2.1, fun _ => trivial⟩ ?_
          case hytb64 =>
            intro w' hSw
            try dsimp only at hSw
            go_simp
            all_goals with_reducible rfl
          try simp only [Act.put, List.setIfInBounds_toArray]
          refine wpAnyB_one (i := 20) true rfl (by kernel_rfl) (by kernel_rfl) ?_
          intro KK hKK
          go_simp
          refine hKK.out _ _ ⟨(F.out _ Bb63).1, (F.out _ Bb63).2.1, (F.out _ Bb63).2.2.1, (F.out _ Bb63).2.2.2.1, (F.out _ Bb63).2.2.2.2.1, fun hh => by cases hh⟩ ?_
          clear hKK KK
          try simp only [Act.put, List.setIfInBounds_toArray, List.set_cons_zero, List.set_cons_succ]
          refine wpAnyB_done (by kernel_rfl) (NoPanic.normal ?_) _
          have B6 := Bb63
          have F6 := Lib.hid (F.out _ B6)
          have G6 := Lib.hid (K0.trans (B6.mono (Nat.le_succ _)))
          have c3 := F6.out.2.2.1
          have c4' := F6.out.2.2.2.2.2
          by_cases e0 : er = 0
          · subst e0
            by_cases k1 : kd = 1
            · have HQ : Hid (pilE p s z ⟨kd, at_, wd⟩ = 0) := by
                show _ = _
                rw [HPE.out, if_neg (by decide), if_neg (by intro hh; exact hh.1 k1)]
              subst k1
              go_wp2
              go_ret
              rw [HQ.out]
              exact ⟨rfl, G6.out⟩
            · have k1b : (kd == 1) = false := by simpa using k1
              have k1c : (kd != 1) = true := by simpa using k1
              by_cases m4 : z.works.length = 400
              · have HQ : Hid (pilE p s z ⟨kd, at_, wd⟩ = 3) := by
                  show _ = _
                  rw [HPE.out, if_neg (by decide), if_pos ⟨k1, m4⟩]
                have m4b : ((z.works.length : Int) == 400) = true := by rw [m4]; rfl
                go_wp2
                go_ret
                rw [HQ.out]
                exact ⟨rfl, G6.out⟩
              · have HQ : Hid (pilE p s z ⟨kd, at_, wd⟩ = 0) := by
                  show _ = _
                  rw [HPE.out, if_neg (by decide), if_neg (by intro hh; exact m4 hh.2)]
                have m4b : ((z.works.length : Int) == 400) = false := by simp; omega
                go_wp2
                go_ret
                rw [HQ.out]
                exact ⟨rfl, G6.out⟩
          · have HQ : Hid (pilE p s z ⟨kd, at_, wd⟩ = er) := by
              show _ = _
              rw [HPE.out, if_pos e0]
            have e0b : (er != 0) = true := by simpa using e0
            go_wp2
            go_ret
            rw [HQ.out]
            exact ⟨rfl, G6.out⟩
      · intro KK hKK
        go_simp
        have Bb27 := Bb11.alloc zb12 (.cells #[.int .i64 0, .slice none 0 0] 24)
        have zb28 : W.heap.size + 1 ≤ (Wb15.alloc (.cells #[.int .i64 0, .slice none 0 0] 24)).heap.size := by simp; omega
        have ob29 := own_below ob13 ((Below.refl Wb15.heap.size Wb15).alloc (Nat.le_refl _) (.cells #[.int .i64 0, .slice none 0 0] 24))
        have Kb30 : Has (Wb15.alloc (.cells #[.int .i64 0, .slice none 0 0] 24)) Wb15.heap.size 24 [.int .i64 0, .slice none 0 0] := Has.new rfl
        have Nb32 : Wd.heap.size < (Wb15.alloc (.cells #[.int .i64 0, .slice none 0 0] 24)).heap.size ∧ ∀ p u, ([.int .i64 kd, .int .i64 at_, .string wd] : List Value)[p]? = some u → (Wb15.alloc (.cells #[.int .i64 0, .slice none 0 0] 24)).cell? ⟨Wd.heap.size, p, none⟩ = some u := ⟨by simp; omega, fun p u hu => (Below.cell ((Below.refl Wb15.heap.size Wb15).alloc (Nat.le_refl _) (.cells #[.int .i64 0, .slice none 0 0] 24)) (p := ⟨Wd.heap.size, p, none⟩) Nb16.1).trans (Nb16.2 p u hu)⟩
        generalize (Wb15.alloc (.cells #[.int .i64 0, .slice none 0 0] 24)) = Wb31 at *
        refine hKK.out _ _ ⟨(F.out _ Bb27).1, (F.out _ Bb27).2.1, (F.out _ Bb27).2.2.1, (F.out _ Bb27).2.2.2.1, (F.out _ Bb27).2.2.2.2.1, fun _ => trivial⟩ ?_
        clear hKK KK
        try simp only [Act.put, List.setIfInBounds_toArray, List.set_cons_zero, List.set_cons_succ]
        refine wpAnyB_one (i := 11) false rfl (by kernel_rfl) (by kernel_rfl) ?_
        intro KK hKK
        refine step_appN rfl (.tmp 31) (.tmp 33) 25 rfl (W.heap.size + 1) 35 (.agg #[.int .i64 0, .int .i64 0, .string ⟨#[]⟩]) 3 32 Try.underlying25 infoCs rfl (by omega) (by omega) (.slice none 0 0) 0 (wksCells []) rfl ob29 ⟨Wd.heap.size, 0, none⟩ 1 1 [.int .i64 kd, .int .i64 at_, .string wd] rfl rfl (fun j u hu => by rw [Addr.add_lit, Nat.zero_add]; exact Nb32.2 j u hu) (by simp [Value.oneCell']) (by omega) (by omega) ?_
        intro v' Wb69 ob67 hgrow4 hnil4 hor4
        obtain ⟨A4, c4, rfl⟩ := own_form ob67
        have zb66 := Nat.le_trans zb28 hgrow4.size
        have Bb65 := Bb27.grown hgrow4 zb28 (fun k hk => (ob29.lt k hk).1)
        have Kb68 := Kb30.same (hgrow4.block _ Kb30.lt (fun e => Kb30.ne_own ob29 (by decide) e.symm))
        refine hKK.out _ _ ⟨(F.out _ Bb65).1, (F.out _ Bb65).2.1, (F.out _ Bb65).2.2.1, (F.out _ Bb65).2.2.2.1, (F.out _ Bb65).2.2.2.2.1, fun _ => trivial⟩ ?_
        clear hKK KK
        try simp only [Act.put, List.setIfInBounds_toArray]
        refine wpAnyB_one (i := 12) false rfl (by kernel_rfl) (by kernel_rfl) ?_
        intro KK hKK
        have CS := csheet p s A4 (0 + 1) c4 ([] ++ [⟨kd, at_, wd⟩]) Wb69 (by decide) (own_rdW (by rw [wksCells_app]; exact ob67)) rfl HWS.out
        rw [← HER.out] at CS
        go_simp
        go_at_call 32
        refine CS.mono ?_
        rintro e Wb74 ⟨p5, A5, n5, c5, b5, rfl, hb5⟩
        have Bb70 := Bb65.trans (hb5.mono zb66)
        have zb71 := Nat.le_trans zb66 hb5.size
        have Kb73 := Kb68.below hb5 Kb68.lt
        refine hKK.out _ _ ⟨(F.out _ Bb70).1, (F.out _ Bb70).2.1, (F.out _ Bb70).2.2.1, (F.out _ Bb70).2.2.2.1, (F.out _ Bb70).2.2.2.2.1, fun _ => trivial⟩ ?_
        clear hKK KK
        try simp only [Act.put, List.setIfInBounds_toArray, List.set_cons_zero, List.set_cons_succ]
        refine wpAnyB_take (i := 13) (oi := _) (v := ?vvtb75) (fun w' => w'.cell? ⟨g, 0, none⟩ = some (.int .i64 p) ∧ w'.cell? ⟨g, 1, none⟩ = some (.int .i64 s) ∧ w'.cell? ⟨W.heap.size, 0, none⟩ = some (.int .i64 kd) ∧ w'.cell? ⟨W.heap.size, 1, none⟩ = some (.int .i64 at_) ∧ w'.cell? ⟨W.heap.size, 2, none⟩ = some (.string wd)) rfl (by kernel_rfl) (by kernel_rfl) (by kernel_rfl) (by kernel_rfl) (by rfl) (fun _ h => ⟨h.1, h.2.1, h.2.2.1, h.2.2.2.1, h.2.2.2.2.1⟩) (.inl fun _ h => ⟨h.1, h.2.1, h.2.2.1, h.2.2.2.1, h.2.2.2.2.1⟩) (fun _ _ _ h => h) (.inl ⟨by rfl, ?hytb75⟩) ⟨(F.out _ Bb70).1, (F.out _ Bb70).2.1, (F.out _ Bb70).2.2.1, (F.out _ Bb70).2.2.2.1, (F.out _ Bb70).2.2.2.2.1, fun _ => trivial⟩ ?_
        case hytb75 =>
          intro w' hSw
          try dsimp only at hSw
          go_simp
          all_goals with_reducible rfl
        try simp only [Act.put, List.setIfInBounds_toArray]
        refine wpAnyB_take (i := 14) (oi := _) (v := ?vvtb76) (fun w' => w'.cell? ⟨g, 0, none⟩ = some (.int .i64 p) ∧ w'.cell? ⟨g, 1, none⟩ = some (.int .i64 s) ∧ w'.cell? ⟨W.heap.size, 0, none⟩ = some (.int .i64 kd) ∧ w'.cell? ⟨W.heap.size, 1, none⟩ = some (.int .i64 at_) ∧ w'.cell? ⟨W.heap.size, 2, none⟩ = some (.string wd)) rfl (by kernel_rfl) (by kernel_rfl) (by kernel_rfl) (by kernel_rfl) (by rfl) (fun _ h => ⟨h.1, h.2.1, h.2.2.1, h.2.2.2.1, h.2.2.2.2.1⟩) (.inl fun _ h => ⟨h.1, h.2.1, h.2.2.1, h.2.2.2.1, h.2.2.2.2.1⟩) (fun _ _ _ h => h) (.inl ⟨by rfl, ?hytb76⟩) ⟨(F.out _ Bb70).1, (F.out _ Bb70).2.1, (F.out _ Bb70).2.2.1, (F.out _ Bb70).2.2.2.1, (F.out _ Bb70).2.2.2.2.1, fun _ => trivial⟩ ?_
        case hytb76 =>
          intro w' hSw
          try dsimp only at hSw
          go_simp
          all_goals with_reducible rfl
        try simp only [Act.put]
        refine wpAnyB_take (i := 15) (oi := _) (v := ?vvtb77) (fun w' => w'.cell? ⟨g, 0, none⟩ = some (.int .i64 p) ∧ w'.cell? ⟨g, 1, none⟩ = some (.int .i64 s) ∧ w'.cell? ⟨W.heap.size, 0, none⟩ = some (.int .i64 kd) ∧ w'.cell? ⟨W.heap.size, 1, none⟩ = some (.int .i64 at_) ∧ w'.cell? ⟨W.heap.size, 2, none⟩ = some (.string wd)) rfl (by kernel_rfl) (by kernel_rfl) (by kernel_rfl) (by kernel_rfl) (by rfl) (fun _ h => ⟨h.1, h.2.1, h.2.2.1, h.2.2.2.1, h.2.2.2.2.1⟩) (.inl fun _ h => ⟨h.1, h.2.1, h.2.2.1, h.2.2.2.1, h.2.2.2.2.1⟩) (fun _ _ _ h => h) (.inl ⟨by rfl, ?hytb77⟩) ⟨(F.out _ Bb70).1, (F.out _ Bb70).2.1, (F.out _ Bb70).2.2.1, (F.out _ Bb70).2.2.2.1, (F.out _ Bb70).2.2.2.2.1, fun _ => trivial⟩ ?_
        case hytb77 =>
          intro w' hSw
          try dsimp only at hSw
          go_simp
          all_goals with_reducible rfl
        try simp only [Act.put]
        refine wpAnyB_take (i := 16) (oi := _) (v := ?vvtb78) (fun w' => w'.cell? ⟨g, 0, none⟩ = some (.int .i64 p) ∧ w'.cell? ⟨g, 1, none⟩ = some (.int .i64 s) ∧ w'.cell? ⟨W.heap.size, 0, none⟩ = some (.int .i64 kd) ∧ w'.cell? ⟨W.heap.size, 1, none⟩ = some (.int .i64 at_) ∧ w'.cell? ⟨W.heap.size, 2, none⟩ = some (.string wd)) rfl (by kernel_rfl) (by kernel_rfl) (by kernel_rfl) (by kernel_rfl) (by rfl) (fun _ h => ⟨h.1, h.2.1, h.2.2.1, h.2.2.2.1, h.2.2.2.2.1⟩) (.inl fun _ h => ⟨h.1, h.2.1, h.2.2.1, h.2.2.2.1, h.2.2.2.2.1⟩) (fun _ _ _ h => h) (.inl ⟨by rfl, ?hytb78⟩) ⟨(F.out _ Bb70).1, (F.out _ Bb70).2.1, (F.out _ Bb70).2.2.1, (F.out _ Bb70).2.2.2.1, (F.out _ Bb70).2.2.2.2.1, fun _ => trivial⟩ ?_
        case hytb78 =>
          intro w' hSw
          try dsimp only at hSw
          go_simp
          all_goals with_reducible rfl
        try simp only [Act.put]
        refine wpAnyB_one (i := 18) false rfl (by kernel_rfl) (by kernel_rfl) ?_
        intro KK hKK
        have k0 := Kb73.cell 0
        have k1 := Kb73.cell 1
        have f0 := Kb73.free 0
        have f1 := Kb73.free 1
        have q8 := Kb73.lt
        go_simp
        have Bb79 := (Bb70.setCell (p := ⟨Wb15.heap.size, 0, none⟩) (by show _ ≤ Wb15.heap.size; omega) (.int .i64 p5)).setCell (p := ⟨Wb15.heap.size, 1, none⟩) (by show _ ≤ Wb15.heap.size; omega) (.slice A5 n5 c5)
        generalize ((Wb74.setCell ⟨Wb15.heap.size, 0, none⟩ (.int .i64 p5)).setCell ⟨Wb15.heap.size, 1, none⟩ (.slice A5 n5 c5)) = w6 at *
        refine hKK.out _ _ ⟨(F.out _ Bb79).1, (F.out _ Bb79).2.1, (F.out _ Bb79).2.2.1, (F.out _ Bb79).2.2.2.1, (F.out _ Bb79).2.2.2.2.1, fun _ => trivial⟩ ?_
        clear hKK KK
        try simp only [Act.put, List.setIfInBounds_toArray, List.set_cons_zero, List.set_cons_succ]
        refine wpAnyB_take (i := 19) (oi := _) (v := ?vvtb80) (fun w' => w'.cell? ⟨g, 0, none⟩ = some (.int .i64 p) ∧ w'.cell? ⟨g, 1, none⟩ = some (.int .i64 s) ∧ w'.cell? ⟨W.heap.size, 0, none⟩ = some (.int .i64 kd) ∧ w'.cell? ⟨W.heap.size, 1, none⟩ = some (.int .i64 at_) ∧ w'.cell? ⟨W.heap.size, 2, none⟩ = some (.string wd)) rfl (by kernel_rfl) (by kernel_rfl) (by kernel_rfl) (by kernel_rfl) (by rfl) (fun _ h => ⟨h.1, h.2.1, h.2.2.1, h.2.2.2.1, h.2.2.2.2.1⟩) (.inl fun _ h => ⟨h.1, h.2.1, h.2.2.1, h.2.2.2.1, h.2.2.2.2.1⟩) (fun _ _ _ h => h) (.inl ⟨by rfl, ?hytb80⟩) ⟨(F.out _ Bb79).1, (F.out _ Bb79).2.1, (F.out _ Bb79).2.2.1, (F.out _ Bb79).2.2.2.1, (F.out _ Bb79).2.2.2.2.1, fun _ => trivial⟩ ?_
        case hytb80 =>
          intro w' hSw
          try dsimp only at hSw
          go_simp
          all_goals with_reducible rfl
        try simp only [Act.put, List.setIfInBounds_toArray]
        refine wpAnyB_one (i := 20) true rfl (by kernel_rfl) (by kernel_rfl) ?_
        intro KK hKK
        go_simp
        refine hKK.out _ _ ⟨(F.out _ Bb79).1, (F.out _ Bb79).2.1, (F.out _ Bb79).2.2.1, (F.out _ Bb79).2.2.2.1, (F.out _ Bb79).2.2.2.2.1, fun hh => by cases hh⟩ ?_
        clear hKK KK
        try simp only [Act.put, List.setIfInBounds_toArray, List.set_cons_zero, List.set_cons_succ]
        refine wpAnyB_done (by kernel_rfl) (NoPanic.normal ?_) _
        have B6 := Bb79
        have F6 := Lib.hid (F.out _ B6)
        have G6 := Lib.hid (K0.trans (B6.mono (Nat.le_succ _)))
        have c3 := F6.out.2.2.1
        have c4' := F6.out.2.2.2.2.2
        by_cases e0 : er = 0
        · subst e0
          by_cases k1 : kd = 1
          · have HQ : Hid (pilE p s z ⟨kd, at_, wd⟩ = 0) := by
              show _ = _
              rw [HPE.out, if_neg (by decide), if_neg (by intro hh; exact hh.1 k1)]
            subst k1
            go_wp2
            go_ret
            rw [HQ.out]
            exact ⟨rfl, G6.out⟩
          · have k1b : (kd == 1) = false := by simpa using k1
            have k1c : (kd != 1) = true := by simpa using k1
            by_cases m4 : z.works.length = 400
            · have HQ : Hid (pilE p s z ⟨kd, at_, wd⟩ = 3) := by
                show _ = _
                rw [HPE.out, if_neg (by decide), if_pos ⟨k1, m4⟩]
              have m4b : ((z.works.length : Int) == 400) = true := by rw [m4]; rfl
              go_wp2
              go_ret
              rw [HQ.out]
              exact ⟨rfl, G6.out⟩
            · have HQ : Hid (pilE p s z ⟨kd, at_, wd⟩ = 0) := by
                show _ = _
                rw [HPE.out, if_neg (by decide), if_neg (by intro hh; exact m4 hh.2)]
              have m4b : ((z.works.length : Int) == 400) = false := by simp; omega
              go_wp2
              go_ret
              rw [HQ.out]
              exact ⟨rfl, G6.out⟩
        · have HQ : Hid (pilE p s z ⟨kd, at_, wd⟩ = er) := by
            show _ = _
            rw [HPE.out, if_pos e0]
          have e0b : (er != 0) = true := by simpa using e0
          go_wp2
          go_ret
          rw [HQ.out]
          exact ⟨rfl, G6.out⟩
    · intro KK hKK
      go_simp
      have Bb17 := Bd.alloc zd (.cells #[.int .i64 0, .slice none 0 0] 24)
      have zb18 : W.heap.size + 1 ≤ (Wd.alloc (.cells #[.int .i64 0, .slice none 0 0] 24)).heap.size := by simp; omega
      have ob19 := own_below od ((Below.refl Wd.heap.size Wd).alloc (Nat.le_refl _) (.cells #[.int .i64 0, .slice none 0 0] 24))
      have Kb20 : Has (Wd.alloc (.cells #[.int .i64 0, .slice none 0 0] 24)) Wd.heap.size 24 [.int .i64 0, .slice none 0 0] := Has.new rfl
      generalize (Wd.alloc (.cells #[.int .i64 0, .slice none 0 0] 24)) = Wb21 at *
      refine hKK.out _ _ ⟨(F.out _ Bb17).1, (F.out _ Bb17).2.1, (F.out _ Bb17).2.2.1, (F.out _ Bb17).2.2.2.1, (F.out _ Bb17).2.2.2.2.1, fun _ => trivial⟩ ?_
      clear hKK KK
      try simp only [Act.put, List.setIfInBounds_toArray, List.set_cons_zero, List.set_cons_succ]
      refine wpAnyB_one (i := 10) false rfl (by kernel_rfl) (by kernel_rfl) ?_
      intro KK hKK
      go_simp
      have Bb81 := Bb17.alloc zb18 (.cells #[.int .i64 kd, .int .i64 at_, .string wd] 35)
      have zb82 : W.heap.size + 1 ≤ (Wb21.alloc (.cells #[.int .i64 kd, .int .i64 at_, .string wd] 35)).heap.size := by simp; omega
      have ob83 := own_below ob19 ((Below.refl Wb21.heap.size Wb21).alloc (Nat.le_refl _) (.cells #[.int .i64 kd, .int .i64 at_, .string wd] 35))
      have Nb86 : Wb21.heap.size < (Wb21.alloc (.cells #[.int .i64 kd, .int .i64 at_, .string wd] 35)).heap.size ∧ ∀ p u, ([.int .i64 kd, .int .i64 at_, .string wd] : List Value)[p]? = some u → (Wb21.alloc (.cells #[.int .i64 kd, .int .i64 at_, .string wd] 35)).cell? ⟨Wb21.heap.size, p, none⟩ = some u := ⟨by simp, fun p u hu => ((Has.new (w := Wb21) (t := 35) (cs := [.int .i64 kd, .int .i64 at_, .string wd]) rfl).cell p).trans hu⟩
      have Kb84 := Kb20.alloc (.cells #[.int .i64 kd, .int .i64 at_, .string wd] 35)
      generalize (Wb21.alloc (.cells #[.int .i64 kd, .int .i64 at_, .string wd] 35)) = Wb85 at *
      refine hKK.out _ _ ⟨(F.out _ Bb81).1, (F.out _ Bb81).2.1, (F.out _ Bb81).2.2.1, (F.out _ Bb81).2.2.2.1, (F.out _ Bb81).2.2.2.2.1, fun _ => trivial⟩ ?_
      clear hKK KK
      try simp only [Act.put, List.setIfInBounds_toArray, List.set_cons_zero, List.set_cons_succ]
      refine wpAnyB_one (i := 11) false rfl (by kernel_rfl) (by kernel_rfl) ?_
      intro KK hKK
      refine step_appN rfl (.tmp 31) (.tmp 33) 25 rfl (W.heap.size + 1) 35 (.agg #[.int .i64 0, .int .i64 0, .string ⟨#[]⟩]) 3 32 Try.underlying25 infoCs rfl (by omega) (by omega) (.slice none 0 0) 0 (wksCells []) rfl ob83 ⟨Wb21.heap.size, 0, none⟩ 1 1 [.int .i64 kd, .int .i64 at_, .string wd] rfl rfl (fun j u hu => by rw [Addr.add_lit, Nat.zero_add]; exact Nb86.2 j u hu) (by simp [Value.oneCell']) (by omega) (by omega) ?_
      intro v' Wb91 ob89 hgrow4 hnil4 hor4
      obtain ⟨A4, c4, rfl⟩ := own_form ob89
      have zb88 := Nat.le_trans zb82 hgrow4.size
      have Bb87 := Bb81.grown hgrow4 zb82 (fun k hk => (ob83.lt k hk).1)
      have Kb90 := Kb84.same (hgrow4.block _ Kb84.lt (fun e => Kb84.ne_own ob83 (by decide) e.symm))
      refine hKK.out _ _ ⟨(F.out _ Bb87).1, (F.out _ Bb87).2.1, (F.out _ Bb87).2.2.1, (F.out _ Bb87).2.2.2.1, (F.out _ Bb87).2.2.2.2.1, fun _ => trivial⟩ ?_
      clear hKK KK
      try simp only [Act.put, List.setIfInBounds_toArray]
      refine wpAnyB_one (i := 12) false rfl (by kernel_rfl) (by kernel_rfl) ?_
      intro KK hKK
      have CS := csheet p s A4 (0 + 1) c4 ([] ++ [⟨kd, at_, wd⟩]) Wb91 (by decide) (own_rdW (by rw [wksCells_app]; exact ob89)) rfl HWS.out
      rw [← HER.out] at CS
      go_simp
      go_at_call 32
      refine CS.mono ?_
      rintro e Wb96 ⟨p5, A5, n5, c5, b5, rfl, hb5⟩
      have Bb92 := Bb87.trans (hb5.mono zb88)
      have zb93 := Nat.le_trans zb88 hb5.size
      have Kb95 := Kb90.below hb5 Kb90.lt
      refine hKK.out _ _ ⟨(F.out _ Bb92).1, (F.out _ Bb92).2.1, (F.out _ Bb92).2.2.1, (F.out _ Bb92).2.2.2.1, (F.out _ Bb92).2.2.2.2.1, fun _ => trivial⟩ ?_
      clear hKK KK
      try simp only [Act.put, List.setIfInBounds_toArray, List.set_cons_zero, List.set_cons_succ]
      refine wpAnyB_take (i := 13) (oi := _) (v := ?vvtb97) (fun w' => w'.cell? ⟨g, 0, none⟩ = some (.int .i64 p) ∧ w'.cell? ⟨g, 1, none⟩ = some (.int .i64 s) ∧ w'.cell? ⟨W.heap.size, 0, none⟩ = some (.int .i64 kd) ∧ w'.cell? ⟨W.heap.size, 1, none⟩ = some (.int .i64 at_) ∧ w'.cell? ⟨W.heap.size, 2, none⟩ = some (.string wd)) rfl (by kernel_rfl) (by kernel_rfl) (by kernel_rfl) (by kernel_rfl) (by rfl) (fun _ h => ⟨h.1, h.2.1, h.2.2.1, h.2.2.2.1, h.2.2.2.2.1⟩) (.inl fun _ h => ⟨h.1, h.2.1, h.2.2.1, h.2.2.2.1, h.2.2.2.2.1⟩) (fun _ _ _ h => h) (.inl ⟨by rfl, ?hytb97⟩) ⟨(F.out _ Bb92).1, (F.out _ Bb92).2.1, (F.out _ Bb92).2.2.1, (F.out _ Bb92).2.2.2.1, (F.out _ Bb92).2.2.2.2.1, fun _ => trivial⟩ ?_
      case hytb97 =>
        intro w' hSw
        try dsimp only at hSw
        go_simp
        all_goals with_reducible rfl
      try simp only [Act.put, List.setIfInBounds_toArray]
      refine wpAnyB_take (i := 14) (oi := _) (v := ?vvtb98) (fun w' => w'.cell? ⟨g, 0, none⟩ = some (.int .i64 p) ∧ w'.cell? ⟨g, 1, none⟩ = some (.int .i64 s) ∧ w'.cell? ⟨W.heap.size, 0, none⟩ = some (.int .i64 kd) ∧ w'.cell? ⟨W.heap.size, 1, none⟩ = some (.int .i64 at_) ∧ w'.cell? ⟨W.heap.size, 2, none⟩ = some (.string wd)) rfl (by kernel_rfl) (by kernel_rfl) (by kernel_rfl) (by kernel_rfl) (by rfl) (fun _ h => ⟨h.1, h.2.1, h.2.2.1, h.2.2.2.1, h.2.2.2.2.1⟩) (.inl fun _ h => ⟨h.1, h.2.1, h.2.2.1, h.2.2.2.1, h.2.2.2.2.1⟩) (fun _ _ _ h => h) (.inl ⟨by rfl, ?hytb98⟩) ⟨(F.out _ Bb92).1, (F.out _ Bb92).2.1, (F.out _ Bb92).2.2.1, (F.out _ Bb92).2.2.2.1, (F.out _ Bb92).2.2.2.2.1, fun _ => trivial⟩ ?_
      case hytb98 =>
        intro w' hSw
        try dsimp only at hSw
        go_simp
        all_goals with_reducible rfl
      try simp only [Act.put]
      refine wpAnyB_take (i := 15) (oi := _) (v := ?vvtb99) (fun w' => w'.cell? ⟨g, 0, none⟩ = some (.int .i64 p) ∧ w'.cell? ⟨g, 1, none⟩ = some (.int .i64 s) ∧ w'.cell? ⟨W.heap.size, 0, none⟩ = some (.int .i64 kd) ∧ w'.cell? ⟨W.heap.size, 1, none⟩ = some (.int .i64 at_) ∧ w'.cell? ⟨W.heap.size, 2, none⟩ = some (.string wd)) rfl (by kernel_rfl) (by kernel_rfl) (by kernel_rfl) (by kernel_rfl) (by rfl) (fun _ h => ⟨h.1, h.2.1, h.2.2.1, h.2.2.2.1, h.2.2.2.2.1⟩) (.inl fun _ h => ⟨h.1, h.2.1, h.2.2.1, h.2.2.2.1, h.2.2.2.2.1⟩) (fun _ _ _ h => h) (.inl ⟨by rfl, ?hytb99⟩) ⟨(F.out _ Bb92).1, (F.out _ Bb92).2.1, (F.out _ Bb92).2.2.1, (F.out _ Bb92).2.2.2.1, (F.out _ Bb92).2.2.2.2.1, fun _ => trivial⟩ ?_
      case hytb99 =>
        intro w' hSw
        try dsimp only at hSw
        go_simp
        all_goals with_reducible rfl
      try simp only [Act.put]
      refine wpAnyB_take (i := 16) (oi := _) (v := ?vvtb100) (fun w' => w'.cell? ⟨g, 0, none⟩ = some (.int .i64 p) ∧ w'.cell? ⟨g, 1, none⟩ = some (.int .i64 s) ∧ w'.cell? ⟨W.heap.size, 0, none⟩ = some (.int .i64 kd) ∧ w'.cell? ⟨W.heap.size, 1, none⟩ = some (.int .i64 at_) ∧ w'.cell? ⟨W.heap.size, 2, none⟩ = some (.string wd)) rfl (by kernel_rfl) (by kernel_rfl) (by kernel_rfl) (by kernel_rfl) (by rfl) (fun _ h => ⟨h.1, h.2.1, h.2.2.1, h.2.2.2.1, h.2.2.2.2.1⟩) (.inl fun _ h => ⟨h.1, h.2.1, h.2.2.1, h.2.2.2.1, h.2.2.2.2.1⟩) (fun _ _ _ h => h) (.inl ⟨by rfl, ?hytb100⟩) ⟨(F.out _ Bb92).1, (F.out _ Bb92).2.1, (F.out _ Bb92).2.2.1, (F.out _ Bb92).2.2.2.1, (F.out _ Bb92).2.2.2.2.1, fun _ => trivial⟩ ?_
      case hytb100 =>
        intro w' hSw
        try dsimp only at hSw
        go_simp
        all_goals with_reducible rfl
      try simp only [Act.put]
      refine wpAnyB_one (i := 18) false rfl (by kernel_rfl) (by kernel_rfl) ?_
      intro KK hKK
      have k0 := Kb95.cell 0
      have k1 := Kb95.cell 1
      have f0 := Kb95.free 0
      have f1 := Kb95.free 1
      have q8 := Kb95.lt
      go_simp
      have Bb101 := (Bb92.setCell (p := ⟨Wd.heap.size, 0, none⟩) (by show _ ≤ Wd.heap.size; omega) (.int .i64 p5)).setCell (p := ⟨Wd.heap.size, 1, none⟩) (by show _ ≤ Wd.heap.size; omega) (.slice A5 n5 c5)
      generalize ((Wb96.setCell ⟨Wd.heap.size, 0, none⟩ (.int .i64 p5)).setCell ⟨Wd.heap.size, 1, none⟩ (.slice A5 n5 c5)) = w6 at *
      refine hKK.out _ _ ⟨(F.out _ Bb101).1, (F.out _ Bb101).2.1, (F.out _ Bb101).2.2.1, (F.out _ Bb101).2.2.2.1, (F.out _ Bb101).2.2.2.2.1, fun _ => trivial⟩ ?_
      clear hKK KK
      try simp only [Act.put, List.setIfInBounds_toArray, List.set_cons_zero, List.set_cons_succ]
      refine wpAnyB_take (i := 19) (oi := _) (v := ?vvtb102) (fun w' => w'.cell? ⟨g, 0, none⟩ = some (.int .i64 p) ∧ w'.cell? ⟨g, 1, none⟩ = some (.int .i64 s) ∧ w'.cell? ⟨W.heap.size, 0, none⟩ = some (.int .i64 kd) ∧ w'.cell? ⟨W.heap.size, 1, none⟩ = some (.int .i64 at_) ∧ w'.cell? ⟨W.heap.size, 2, none⟩ = some (.string wd)) rfl (by kernel_rfl) (by kernel_rfl) (by kernel_rfl) (by kernel_rfl) (by rfl) (fun _ h => ⟨h.1, h.2.1, h.2.2.1, h.2.2.2.1, h.2.2.2.2.1⟩) (.inl fun _ h => ⟨h.1, h.2.1, h.2.2.1, h.2.2.2.1, h.2.2.2.2.1⟩) (fun _ _ _ h => h) (.inl ⟨by rfl, ?hytb102⟩) ⟨(F.out _ Bb101).1, (F.out _ Bb101).2.1, (F.out _ Bb101).2.2.1, (F.out _ Bb101).2.2.2.1, (F.out _ Bb101).2.2.2.2.1, fun _ => trivial⟩ ?_
      case hytb102 =>
        intro w' hSw
        try dsimp only at hSw
        go_simp
        all_goals with_reducible rfl
      try simp only [Act.put, List.setIfInBounds_toArray]
      refine wpAnyB_one (i := 20) true rfl (by kernel_rfl) (by kernel_rfl) ?_
      intro KK hKK
      go_simp
      refine hKK.out _ _ ⟨(F.out _ Bb101).1, (F.out _ Bb101).2.1, (F.out _ Bb101).2.2.1, (F.out _ Bb101).2.2.2.1, (F.out _ Bb101).2.2.2.2.1, fun hh => by cases hh⟩ ?_
      clear hKK KK
      try simp only [Act.put, List.setIfInBounds_toArray, List.set_cons_zero, List.set_cons_succ]
      refine wpAnyB_done (by kernel_rfl) (NoPanic.normal ?_) _
      have B6 := Bb101
      have F6 := Lib.hid (F.out _ B6)
      have G6 := Lib.hid (K0.trans (B6.mono (Nat.le_succ _)))
      have c3 := F6.out.2.2.1
      have c4' := F6.out.2.2.2.2.2
      by_cases e0 : er = 0
      · subst e0
        by_cases k1 : kd = 1
        · have HQ : Hid (pilE p s z ⟨kd, at_, wd⟩ = 0) := by
            show _ = _
            rw [HPE.out, if_neg (by decide), if_neg (by intro hh; exact hh.1 k1)]
          subst k1
          go_wp2
          go_ret
          rw [HQ.out]
          exact ⟨rfl, G6.out⟩
        · have k1b : (kd == 1) = false := by simpa using k1
          have k1c : (kd != 1) = true := by simpa using k1
          by_cases m4 : z.works.length = 400
          · have HQ : Hid (pilE p s z ⟨kd, at_, wd⟩ = 3) := by
              show _ = _
              rw [HPE.out, if_neg (by decide), if_pos ⟨k1, m4⟩]
            have m4b : ((z.works.length : Int) == 400) = true := by rw [m4]; rfl
            go_wp2
            go_ret
            rw [HQ.out]
            exact ⟨rfl, G6.out⟩
          · have HQ : Hid (pilE p s z ⟨kd, at_, wd⟩ = 0) := by
              show _ = _
              rw [HPE.out, if_neg (by decide), if_neg (by intro hh; exact m4 hh.2)]
            have m4b : ((z.works.length : Int) == 400) = false := by simp; omega
            go_wp2
            go_ret
            rw [HQ.out]
            exact ⟨rfl, G6.out⟩
      · have HQ : Hid (pilE p s z ⟨kd, at_, wd⟩ = er) := by
          show _ = _
          rw [HPE.out, if_pos e0]
        have e0b : (er != 0) = true := by simpa using e0
        go_wp2
        go_ret
        rw [HQ.out]
        exact ⟨rfl, G6.out⟩
end Go.Proofs.Ytaenafcecfdffaa
