/-
  Ours. Rows of bytes as cells; small lemmas on slices that read as lists.
-/
import Derived.Test.YtdhobpbngkainaaDoorProg
import Derived.Test.YtdhobpbngkainaaDoorAppend
import Derived.RegionTactic
namespace Go.Proofs.YtdhobpbngkainaaDoor
open Go.RowKit

section
variable {α : Type} (enc : α → Value)
theorem take_succ_eq {xs ys : List α} {k : Nat} (h : xs.take k = ys.take k) (hx : k < xs.length) (hy : k < ys.length) (he : xs[k] = ys[k]) : xs.take (k + 1) = ys.take (k + 1) := by
  rw [List.take_succ_eq_append_getElem hx, List.take_succ_eq_append_getElem hy, h, he]
theorem cellsAt_map {w : World} {a : Option Addr} {xs : List α} (h : CellsAt w a (xs.map enc)) (hp : 0 < xs.length) : ∃ g off, a = some ⟨g, off, none⟩ ∧ ∀ j (h : j < xs.length), w.cell? ⟨g, off + j, none⟩ = some (enc (xs[j]'h)) := by
  obtain ⟨g, off, ha, hc⟩ := h (by simpa using hp)
  exact ⟨g, off, ha, fun j hj => by rw [hc j (by simpa using hj)]; simp⟩
end

theorem infoByte : (Tryd.prog.info? 5).map (fun i => (i.zero, i.size, i.bytes)) = some (some (.int .u8 0), 1, 1) := by kernel_rfl
/-- The cells of a row of bytes. -/
def row8 (l : List UInt8) : Array Value := (l.map enc8).toArray
theorem row8_get (l : List UInt8) (j : Nat) (h : j < l.length) : (row8 l)[j]? = some (enc8 l[j]) := by simp [row8, h]
theorem row8_set (l : List UInt8) (j : Nat) (x : UInt8) : (row8 l).setIfInBounds j (enc8 x) = row8 (l.set j x) := by
  apply Array.ext'; simp [row8, List.map_set]

end Go.Proofs.YtdhobpbngkainaaDoor
