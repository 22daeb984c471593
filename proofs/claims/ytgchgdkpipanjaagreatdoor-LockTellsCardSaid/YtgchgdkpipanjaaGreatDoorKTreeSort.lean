/- tree.Sort: the contract. -/
import Derived.Test.YtgchgdkpipanjaaGreatDoorKSortOwn
import Derived.Test.YtgchgdkpipanjaaGreatDoorKTreed
import Derived.Test.YtgchgdkpipanjaaGreatDoorKTreePlains
namespace Go.Proofs.YtgchgdkpipanjaaGreatDoor
open Go Go.RowKit

/-- What a function over trees hands back: an error, files. -/
def TPost (E : Nat → Addr) (r : Er × List FileB) (w : World) (e : Ending) (w' : World) : Prop :=
  (∃ v ev, e = .returned (.tuple #[v, ev]) ∧ Hid (IsErr E w' ev r.1) ∧ Hid (FOwn w' w.heap.size v r.2)) ∧ Below w.heap.size w w'
theorem TPost.none {E : Nat → Addr} {er : Er} {w w' : World} {ev : Value} (h : Hid (IsErr E w' ev er)) (hb : Below w.heap.size w w') : TPost E (er, []) w (.returned (.tuple #[.slice none 0 0, ev])) w' :=
  ⟨⟨_, _, rfl, h, FOwn.nil _ _⟩, hb⟩
theorem FOwn.row {w : World} {base : Nat} {v : Value} {l : List FileB} (h : FOwn w base v l) : FRow w v l := h.arg.1
end Go.Proofs.YtgchgdkpipanjaaGreatDoor
