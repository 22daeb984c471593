/- Held trees, in plain Lean. -/
import Derived.Test.YtgchgdkpipanjaaGreatDoorKPackedUp
import Derived.Lib.Slices
namespace Go.Proofs.YtgchgdkpipanjaaGreatDoor
open Go

/-- What is held: how many at most; sums and trees, as they came. -/
structure HeldB where
  most : Nat
  trees : List (Int × List FileB)
def HeldB.sums (h : HeldB) : List Int := h.trees.map (·.1)
end Go.Proofs.YtgchgdkpipanjaaGreatDoor
