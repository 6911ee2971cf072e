/-
  The errors of both Nets: a sheet that is not valid.
-/
import Derived.Test.YtnjenggijmbhcaaNet
import Derived.Test.YtnjenggijmbhcaaR28
import Derived.Test.YtnjenggijmbhcaaShc
namespace Go.Proofs.Ytnjenggijmbhcaa
open Go.RowKit
set_option maxRecDepth 100000 in
theorem Net28E (p : Int) (A : Option Addr) (n c : Nat) (ws : List Wk) (w : World) (hn : n ≤ 9223372036854775807) (hw : RdW w w.heap.size A ws) (hl : ws.length = n)
    (hs : ∀ x ∈ ws, x.word.size ≤ 9223372036854775807) (h0 : schk p ws ≠ 0) :
    Calls Try.prog 16 #[.agg #[.int .i64 p, .slice A n c]] w (RetSE 0 [] (schk p ws) w) := by
  have HW := Lib.hid hw; clear hw
  have HL := Lib.hid hl; clear hl
  have HS := Lib.hid hs; clear hs
  have h1 : (schk p ws != 0) = true := by simpa using h0
  have h2 : (schk p ws == 0) = false := by simpa using h0
  clear h0
  have C := Lib.hid (fun (W : World) (hw : RdW W W.heap.size A ws) => check04 p A n c ws W hn hw HL.out HS.out)
  generalize schk p ws = q at *
  go_enter Try.func16, Try.ntmps16
  go_wp2_with fail
  refine (C.out _ (HW.out.up (by go_grown))).mono ?_
  rintro e w1 ⟨rfl, hb1⟩
  obtain ⟨hc, hf⟩ := bcell hb1
  have h1 : Has w1 (w.heap.size + 1) 24 [.int .i64 0, .slice none 0 0] := by
    have := Has.new (w := w.alloc (.cells #[.int .i64 p, .slice A n c] 24)) (arr := #[.int .i64 0, .slice none 0 0]) (t := 24) (cs := [.int .i64 0, .slice none 0 0]) rfl
    simp only [World.size_alloc] at this
    exact this.below hb1 (by simp)
  have m0 : w1.cell? ⟨w.heap.size + 1, 0, none⟩ = some (.int .i64 0) := h1.cell 0
  have m1 : w1.cell? ⟨w.heap.size + 1, 1, none⟩ = some (.slice none 0 0) := h1.cell 1
  have f0 := h1.free 0
  have f1 := h1.free 1
  go_wp2
  refine post_cell_tmp ((h1.set 0 _).set 1 _) Try.results16 rfl rfl rfl Try.underlying24 (by kernel_rfl) ?_
  exact ⟨_, _, _, rfl, RdW.nil _ _ _, rfl, Nat.zero_le _, by omega, ((bvia (by go_grown) hb1).setCell (by simp) _).setCell (by simp) _⟩
set_option maxRecDepth 100000 in
theorem NetUnE (p : Int) (A : Option Addr) (n c : Nat) (ws : List Wk) (w : World) (hn : n ≤ 9223372036854775807) (hw : RdW w w.heap.size A ws) (hl : ws.length = n)
    (hs : ∀ x ∈ ws, x.word.size ≤ 9223372036854775807) (h0 : schk p ws ≠ 0) :
    Calls Try.prog 15 #[.agg #[.int .i64 p, .slice A n c]] w (RetSE 0 [] (schk p ws) w) := by
  have HW := Lib.hid hw; clear hw
  have HL := Lib.hid hl; clear hl
  have HS := Lib.hid hs; clear hs
  have h1 : (schk p ws != 0) = true := by simpa using h0
  have h2 : (schk p ws == 0) = false := by simpa using h0
  clear h0
  have C := Lib.hid (fun (W : World) (hw : RdW W W.heap.size A ws) => shCheck p A n c ws W hn hw HL.out HS.out)
  generalize schk p ws = q at *
  go_enter Try.func15, Try.ntmps15
  go_wp2_with fail
  refine (C.out _ (HW.out.up (by go_grown))).mono ?_
  rintro e w1 ⟨rfl, hb1⟩
  obtain ⟨hc, hf⟩ := bcell hb1
  have h1 : Has w1 (w.heap.size + 1) 24 [.int .i64 0, .slice none 0 0] := by
    have := Has.new (w := w.alloc (.cells #[.int .i64 p, .slice A n c] 24)) (arr := #[.int .i64 0, .slice none 0 0]) (t := 24) (cs := [.int .i64 0, .slice none 0 0]) rfl
    simp only [World.size_alloc] at this
    exact this.below hb1 (by simp)
  have m0 : w1.cell? ⟨w.heap.size + 1, 0, none⟩ = some (.int .i64 0) := h1.cell 0
  have m1 : w1.cell? ⟨w.heap.size + 1, 1, none⟩ = some (.slice none 0 0) := h1.cell 1
  have f0 := h1.free 0
  have f1 := h1.free 1
  go_wp2
  refine post_cell_tmp ((h1.set 0 _).set 1 _) Try.results15 rfl rfl rfl Try.underlying24 (by kernel_rfl) ?_
  exact ⟨_, _, _, rfl, RdW.nil _ _ _, rfl, Nat.zero_le _, by omega, ((bvia (by go_grown) hb1).setCell (by simp) _).setCell (by simp) _⟩
end Go.Proofs.Ytnjenggijmbhcaa
