/- Plain: what is pressed is read as its runs; opened it is what it was. What is right has the sum: in plain Lean. -/
import Derived.Test.YtomceddfbfpjjaaGreatDoorKParsed
import Derived.Test.YtomceddfbfpjjaaGreatDoorKPlainly
import Derived.Test.YtomceddfbfpjjaaGreatDoorKWantPlains
import Derived.Test.YtomceddfbfpjjaaGreatDoorKTreePlains
namespace Go.Proofs.YtomceddfbfpjjaaGreatDoor
open Go

end Go.Proofs.YtomceddfbfpjjaaGreatDoor

namespace Go.Proofs.YtomceddfbfpjjaaGreatDoor
open Go

theorem wantE_of {w : WantB} (h : WantOk w) : wantE w = 0 := by
  unfold wantE
  rw [if_neg (by rw [h.name]; simp), if_neg (by rw [h.url]; simp), if_neg (by simpa using h.kind), if_neg (by have := h.strip; omega), if_neg (fun e => e.2 (h.plain e.1)), if_neg]
  unfold rightB
  have := h.sum
  simp only [Bool.not_eq_false, Bool.and_eq_true, decide_eq_true_eq]
  exact this
theorem treeSum_right (l : List FileB) : 0 ≤ treeSum l ∧ treeSum l < 1000000007 := by
  unfold treeSum
  have h : sumL (packT l) < 1000000007 := sumL_lt (packT l)
  omega
end Go.Proofs.YtomceddfbfpjjaaGreatDoor
