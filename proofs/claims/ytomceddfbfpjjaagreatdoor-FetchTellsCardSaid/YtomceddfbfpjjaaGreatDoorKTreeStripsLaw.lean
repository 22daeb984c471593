/- chandlerylaw1.TreeStrips: the walk. -/
import Derived.Test.YtomceddfbfpjjaaGreatDoorKRooted
import Derived.Test.YtomceddfbfpjjaaGreatDoorKTreeLoops
import Derived.Test.YtomceddfbfpjjaaGreatDoorKTreePlains
import Derived.Test.YtomceddfbfpjjaaGreatDoorKRefPathed
namespace Go.Proofs.YtomceddfbfpjjaaGreatDoor
open Go Go.RowKit

theorem TreeOk.small {l : List FileB} (h : TreeOk l) : ∀ f ∈ l, SmallF f ∧ f.path.size ≤ 9000 := fun f hf => by
  obtain ⟨h1, h2⟩ := h.each f hf
  have h3 : (bl f.path).length ≤ 78 := by
    have := path_clean h1
    have := cleanT_len this.1
    rwa [(path_clean h1).2] at this
  rw [bl_length] at h3
  exact ⟨⟨by omega, by omega⟩, by omega⟩
theorem FRow.len {w : World} {v : Value} {l : List FileB} (h : FRow w v l) : ∃ ao cap, v = .slice ao l.length cap := by
  obtain ⟨ao, cap, e, _⟩ := h
  exact ⟨ao, cap, e⟩
theorem wf_len {n : Nat} (h : n ≤ 1000000) : (Lit.int .i64 (n : Int)).wf = true := by
  have h1 : IntKind.i64.min = -9223372036854775808 := rfl
  have h2 : IntKind.i64.max = 9223372036854775807 := rfl
  simp [Lit.wf, h1, h2]; omega

end Go.Proofs.YtomceddfbfpjjaaGreatDoor
