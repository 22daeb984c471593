/- The law's own small word: chandlerylaw1.coded; an error's value by its number. -/
import Derived.Test.YtkplekkldkmdhaaDoorCoded
import Derived.Test.YtkplekkldkmdhaaDoorPath
namespace Go.Proofs.YtkplekkldkmdhaaDoor
open Go Go.RowKit

theorem isErr_errV1 {E : Nat → Addr} {w : World} {c : Nat} (h : c ≤ 13) : IsErr E w (errV E c) ⟨c, none⟩ := by
  cases c with
  | zero => exact IsErr.nil E w
  | succ k => exact IsErr.base E w k (by omega)
theorem errCoded1 {E : Nat → Addr} {w : World} {c : Nat} (hE : Env E w) (h : c ≤ 13) : Calls Tryd.prog 24 #[errV E c, .int .i64 c] w fun e w' => e = .returned (.bool true) ∧ Below w.heap.size w w' := by
  refine (coded_any hE (isErr_errV1 h) c).mono ?_
  rintro e w' ⟨rfl, hb⟩
  refine ⟨?_, hb⟩
  have : codedB ⟨c, none⟩ (c : Int) = true := by unfold codedB; simp
  rw [this]
end Go.Proofs.YtkplekkldkmdhaaDoor
