/-
  Contract of chapter 17: Ends.
-/
import Derived.Test.YtnjenggijmbhcaaVK19
import Derived.Test.YtnjenggijmbhcaaVK21
namespace Go.Proofs.Ytnjenggijmbhcaa
open Go.RowKit
def endsR (t : Int) (xs ps : List Q4) : List Int := if ckE t xs ps = 0 then (lineTo xs (lineL 48) xs.length).take t.toNat else []
theorem keepC_below {g B : Nat} {V W : World} (h : KeepC g V W) (hB : B ≤ g) (hV : B ≤ V.heap.size) : Below B V W := ⟨h.os, h.tape, h.output, h.size, fun i hi => h.same i (by omega) (by omega)⟩
theorem lineTo_next {xs : List Q4} {L : List Int} {k i : Nat} {x : Q4} {a b : Int} (h : xs[k]? = some x) (hi : x.b = (i : Int)) (ha : (lineTo xs L k)[i]? = some a) (hb : (lineTo xs L k)[i + 1]? = some b) : lineTo xs L (k + 1) = ((lineTo xs L k).set i b).set (i + 1) a := by
  show (match xs[k]? with | some x => swapL (lineTo xs L k) x | none => lineTo xs L k) = _
  rw [h]
  show swapL (lineTo xs L k) x = _
  unfold swapL
  rw [hi, show ((i : Nat) : Int).toNat = i by simp, List.getD_eq_getElem?_getD, List.getD_eq_getElem?_getD, ha, hb]; rfl
theorem rdI_hasC {w : World} {g : Nat} {t : TypeId} {L : List Int} (h : Has w g t (L.map vInt)) : RdI w w.heap.size (some ⟨g, 0, none⟩) L := fun k x hx => by
  refine ⟨g, 0, rfl, h.lt, ?_⟩
  rw [Nat.zero_add, h.cell, List.getElem?_map, hx]; rfl
end Go.Proofs.Ytnjenggijmbhcaa
