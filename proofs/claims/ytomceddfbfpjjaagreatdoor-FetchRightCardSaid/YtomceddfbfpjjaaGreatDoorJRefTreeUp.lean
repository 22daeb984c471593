/- The reference's DropFile: the contract. -/
import Derived.Test.YtomceddfbfpjjaaGreatDoorJTreeLoops
import Derived.Test.YtomceddfbfpjjaaGreatDoorJTreeDrops
import Derived.Test.YtomceddfbfpjjaaGreatDoorJRefTree
import Derived.Test.YtomceddfbfpjjaaGreatDoorJFiles
namespace Go.Proofs.YtomceddfbfpjjaaGreatDoor
open Go Go.RowKit

/-- What the reference's functions over trees hand back. -/
def RPost (r : Er × List FileB) (w : World) (e : Ending) (w' : World) : Prop :=
  (∃ v, e = .returned (.tuple #[v, .agg (erA r.1)]) ∧ Hid (FOwn w' w.heap.size v r.2)) ∧ Below w.heap.size w w'
theorem RPost.fault {r : Er × List FileB} {w w' : World} {v : Value} {c : Nat} {a : Int} (hc : r.1.code = c) (ha : r.1.at?.getD (-1) = a) (h : FOwn w' w.heap.size v r.2) (hb : Below w.heap.size w w') : RPost r w (.returned (.tuple #[v, .agg #[.int .i64 c, .int .i64 a]])) w' :=
  ⟨⟨v, by unfold erA; rw [hc, ha], h⟩, hb⟩
end Go.Proofs.YtomceddfbfpjjaaGreatDoor
