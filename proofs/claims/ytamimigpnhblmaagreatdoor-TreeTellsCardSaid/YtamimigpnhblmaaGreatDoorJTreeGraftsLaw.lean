/- chandlerylaw1.TreeGrafts: the walk. -/
import Derived.Test.YtamimigpnhblmaaGreatDoorJTreeStripsLaw
import Derived.Test.YtamimigpnhblmaaGreatDoorJTreeDrops
import Derived.Test.YtamimigpnhblmaaGreatDoorJLongFiles
namespace Go.Proofs.YtamimigpnhblmaaGreatDoor
open Go Go.RowKit

/-- What the law's second argument of files says of a world. -/
def Boxes (w : World) (tb : Nat) (x : FileB) : Prop := w.heap[tb]? = some (.cells (encFile x).toArray 24 (0, 0))
theorem Boxes.ext {w w' : World} {tb : Nat} {x : FileB} (h : Boxes w tb x) (hb : Below w.heap.size w w') : Boxes w' tb x := (hb.block tb (Array.getElem?_eq_some_iff.1 h).1).trans h
theorem Boxes.cells {w : World} {tb : Nat} {x : FileB} (h : Boxes w tb x) : w.cell? ⟨tb, 0, none⟩ = some (.string x.path) ∧ w.cell? ⟨tb, 1, none⟩ = some (.bool x.run) ∧ w.cell? ⟨tb, 2, none⟩ = some (.string x.text) :=
  ⟨by rw [Lib.cell_of_heap h]; rfl, by rw [Lib.cell_of_heap h]; rfl, by rw [Lib.cell_of_heap h]; rfl⟩

end Go.Proofs.YtamimigpnhblmaaGreatDoor
