/-
  Contract of cloth.Make at a sheet that is not valid: the error of its check, and an empty cloth.
-/
import Derived.Test.YtpljaoagiaijiaaMk2
namespace Go.Proofs.Ytpljaoagiaijiaa
open Go.RowKit
set_option maxRecDepth 100000 in
set_option maxHeartbeats 1000000 in
theorem make11e (p : Int) (A : Option Addr) (n c : Nat) (ws : List Wk) (w : World) (hn : n ≤ 9223372036854775807) (hw : RdW w w.heap.size A ws) (hl : ws.length = n) (hs : ∀ x ∈ ws, x.word.size ≤ 9223372036854775807) (hE : schk p ws ≠ 0) :
    Calls Try.prog 11 #[.agg #[.int .i64 p, .slice A n c]] w (RetCE 0 [] [] (schk p ws) w) := by
  have C1 := Lib.hid (fun (W : World) (hb : Below w.heap.size w W) => shCheck p A n c ws W hn (hw.up hb) hl hs)
  clear hw hl hs
  generalize schk p ws = r at *
  have hr : (r != 0) = true := by simpa using hE
  clear hE
  go_enter Try.func11, Try.ntmps11
  go_wp2_with fail
  refine (C1.out _ (by go_grown)).mono ?_
  rintro e w1 ⟨rfl, hb1⟩
  have K2 : Has w1 (w.heap.size + 1) 30 [.int .i64 0, .slice none 0 0, .slice none 0 0] := (Has.new2 rfl).below hb1 (by simp)
  have B1 : Below w.heap.size w w1 := bvia (show Below w.heap.size w _ by go_grown) hb1
  have z0 : w1.cell? ⟨w.heap.size + 1, 0, none⟩ = some (.int .i64 0) := K2.cell 0
  have z1 : w1.cell? ⟨w.heap.size + 1, 1, none⟩ = some (.slice none 0 0) := K2.cell 1
  have z2 : w1.cell? ⟨w.heap.size + 1, 2, none⟩ = some (.slice none 0 0) := K2.cell 2
  have f0 := K2.free 0
  have f1 := K2.free 1
  have f2 := K2.free 2
  have qa := K2.lt
  clear hb1
  go_wp2
  refine post_cell_tmp (((K2.set 0 _).set 1 _).set 2 _) rfl rfl rfl rfl Try.underlying30 (by kernel_rfl) ⟨none, 0, 0, none, 0, 0, rfl, RdQ.nil _ _ _, RdQ.nil _ _ _, rfl, rfl, Nat.le_refl _, by omega, Nat.le_refl _, by omega, ?_⟩
  exact ((B1.setCell (by simp) _).setCell (by simp) _).setCell (by simp) _
end Go.Proofs.Ytpljaoagiaijiaa
