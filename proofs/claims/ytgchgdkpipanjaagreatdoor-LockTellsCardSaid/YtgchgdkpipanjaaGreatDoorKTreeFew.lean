/- slices.Equal at files; tree.Same: contracts. slices.Clone of files: the contract. -/
import Derived.Test.YtgchgdkpipanjaaGreatDoorKTreed
import Derived.Test.YtgchgdkpipanjaaGreatDoorKPlainly
import Derived.Test.YtgchgdkpipanjaaGreatDoorKFiles
import Derived.Laws.NewBlocks
import Derived.Lib.SliceRun
namespace Go.Proofs.YtgchgdkpipanjaaGreatDoor
open Go Go.RowKit

theorem file_eq (f g : FileB) : f = g ↔ f.path = g.path ∧ f.run = g.run ∧ f.text = g.text := by
  constructor
  · rintro rfl; exact ⟨rfl, rfl, rfl⟩
  · cases f; cases g; rintro ⟨h1, h2, h3⟩; simp only at h1 h2 h3; subst h1; subst h2; subst h3; rfl
instance : DecidableEq FileB := fun f g => decidable_of_iff _ (file_eq f g).symm
theorem str_eqb (a b : ByteArray) : (a.toList == b.toList) = decide (a = b) := by
  by_cases h : a = b
  · subst h; simp
  · rw [decide_eq_false h, beq_eq_false_iff_ne]
    exact fun e => h (bl_inj (by rw [toList_bl, toList_bl] at e; exact e))

end Go.Proofs.YtgchgdkpipanjaaGreatDoor

namespace Go.Proofs.YtgchgdkpipanjaaGreatDoor
open Go Go.RowKit Go.Lib

end Go.Proofs.YtgchgdkpipanjaaGreatDoor
