/- slices.Values, slices.AppendSeq, slices.Collect at files: contracts. -/
import Derived.Test.YtgchgdkpipanjaaGreatDoorKRanged
import Derived.Test.YtgchgdkpipanjaaGreatDoorKFiles
import Derived.BigRegionIn
namespace Go.Proofs.YtgchgdkpipanjaaGreatDoor
open Go Go.RowKit Go.Shelf
attribute [local go_sem] Oper.semAt_some

/-- What is said stays true when a block that is no cells and lies at or beyond B is turned. -/
def Calm0 {β : Type} (B : Nat) (I : β → World → Prop) : Prop :=
  ∀ s W W' row, I s W → W.grownBy W' row → (∀ r, row = some r → B ≤ r ∧ ∃ o : Obj, W.heap[r]? = some o ∧ o.isCells = false) → I s W'
theorem Calm0.put {β : Type} {B : Nat} {I : β → World → Prop} (h : Calm0 B I) {s : β} {W : World} {l : Nat} {o : Obj} (o' : Obj) (hs : I s W) (hB : B ≤ l) (hl : W.heap[l]? = some o) (ho : o.isCells = false) : I s (W.putObj l o') :=
  h s W _ (some l) hs (grownBy_putObj' W l o') (fun r e => by cases e; exact ⟨hB, o, hl, ho⟩)
theorem Calm0.alloc {β : Type} {B : Nat} {I : β → World → Prop} (h : Calm0 B I) {s : β} {W : World} (o : Obj) (hs : I s W) : I s (W.alloc o) :=
  h s W _ none hs (World.grownBy_alloc W o none) (fun r e => by cases e)
variable {F : Fence} {n : Nat} {P : Program}
end Go.Proofs.YtgchgdkpipanjaaGreatDoor
