/- tree.Under: the contract. -/
import Derived.Test.YtgchgdkpipanjaaGreatDoorKTreeSort
import Derived.Test.YtgchgdkpipanjaaGreatDoorKTreeFew
import Derived.IntWalk
namespace Go.Proofs.YtgchgdkpipanjaaGreatDoor
open Go Go.RowKit

/-- A row of the call's own, behind a store elsewhere. -/
theorem FOwn.store {w : World} {base : Nat} {v : Value} {l : List FileB} (h : FOwn w base v l) {q o : Nat} (hq : ∀ g, v.ownBlock = some g → g ≠ q) (x : Value) : FOwn (w.setCell ⟨q, o, none⟩ x) base v l := by
  refine World.ownsRow.kept h (row := some q) ⟨rfl, rfl, rfl, (KeepsWalks.setCell w _ x).size, fun k _ hk => Below.heap_setCell _ _ _ k (fun e => hk (by rw [e]))⟩ ?_
  cases hv : v.ownBlock with
  | none => exact .inl rfl
  | some g => exact .inr (fun e => hq g hv (by cases e; rfl))

end Go.Proofs.YtgchgdkpipanjaaGreatDoor
