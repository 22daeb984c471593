/- The reference's DropFile: the contract. -/
import Derived.Test.YtgchgdkpipanjaaGreatDoorKTreeLoops
import Derived.Test.YtgchgdkpipanjaaGreatDoorKTreeDrops
import Derived.Test.YtgchgdkpipanjaaGreatDoorKRefTree
import Derived.Test.YtgchgdkpipanjaaGreatDoorKFiles
namespace Go.Proofs.YtgchgdkpipanjaaGreatDoor
open Go Go.RowKit

/-- What the reference's functions over trees hand back. -/
def RPost (r : Er × List FileB) (w : World) (e : Ending) (w' : World) : Prop :=
  (∃ v, e = .returned (.tuple #[v, .agg (erA r.1)]) ∧ Hid (FOwn w' w.heap.size v r.2)) ∧ Below w.heap.size w w'
/-- A fault at the result's block. -/
theorem fault_end {w : World} {g : Nat} {c a : Int} (h : FaultAt w g c a) (x y : Int) (B : Nat) (hg : B ≤ g) :
    ((w.setCell ⟨g, 0, none⟩ (.int .i64 x)).setCell ⟨g, 1, none⟩ (.int .i64 y)).cell? ⟨g, 0, none⟩ = some (.int .i64 x) ∧ ((w.setCell ⟨g, 0, none⟩ (.int .i64 x)).setCell ⟨g, 1, none⟩ (.int .i64 y)).cell? ⟨g, 1, none⟩ = some (.int .i64 y) ∧ Below B w ((w.setCell ⟨g, 0, none⟩ (.int .i64 x)).setCell ⟨g, 1, none⟩ (.int .i64 y)) :=
  ⟨(h.store x y).cells.1, (h.store x y).cells.2.1, ((Below.refl B w).setCell (p := ⟨g, 0, none⟩) hg _).setCell (p := ⟨g, 1, none⟩) hg _⟩
theorem RPost.fault {r : Er × List FileB} {w w' : World} {v : Value} {c : Nat} {a : Int} (hc : r.1.code = c) (ha : r.1.at?.getD (-1) = a) (h : FOwn w' w.heap.size v r.2) (hb : Below w.heap.size w w') : RPost r w (.returned (.tuple #[v, .agg #[.int .i64 c, .int .i64 a]])) w' :=
  ⟨⟨v, by unfold erA; rw [hc, ha], h⟩, hb⟩
end Go.Proofs.YtgchgdkpipanjaaGreatDoor
