/- Nothing: this seat does not reach plain.Code (the text bears the name that other texts import). chandlerylaw2.faulted; the reference's Bare, Fine: contracts. A fault's two cells, stored. -/
import Derived.Test.YtgchgdkpipanjaaGreatDoorJErrors
import Derived.Test.YtgchgdkpipanjaaGreatDoorJPathed
namespace Go.Proofs.YtgchgdkpipanjaaGreatDoor
end Go.Proofs.YtgchgdkpipanjaaGreatDoor

namespace Go.Proofs.YtgchgdkpipanjaaGreatDoor
open Go Go.RowKit

/-- The reference's fault, as a value. -/
def erA (er : Er) : Array Value := #[.int .i64 er.code, .int .i64 (er.at?.getD (-1))]

set_option maxRecDepth 100000 in
theorem refBare_any (c : Int) (w : World) : Calls Tryz.prog 68 #[.int .i64 c] w fun e w' => e = .returned (.agg #[.int .i64 c, .int .i64 (-1)]) ∧ Below w.heap.size w w' := by
  go_enter Tryz.func68, Tryz.ntmps68
  go_wp2_with fail
  exact bodyPost_ret (v := .agg #[.int .i64 c, .int .i64 (-1)]) (by simp [results, Tryz.results68, go_sem]) rfl ⟨rfl, (Below.refl _ _).alloc (Nat.le_refl _) _⟩
set_option maxRecDepth 100000 in
theorem refFine_any (w : World) : Calls Tryz.prog 70 #[] w fun e w' => e = .returned (.agg #[.int .i64 0, .int .i64 (-1)]) ∧ Below w.heap.size w w' := by
  go_enter Tryz.func70, Tryz.ntmps70
  go_wp2_with fail
  exact bodyPost_ret (v := .agg #[.int .i64 0, .int .i64 (-1)]) (by simp [results, Tryz.results70, go_sem]) rfl ⟨rfl, (Below.refl _ _).alloc (Nat.le_refl _) _⟩

end Go.Proofs.YtgchgdkpipanjaaGreatDoor

namespace Go.Proofs.YtgchgdkpipanjaaGreatDoor
open Go Go.RowKit

theorem fault_store {w : World} {g gw : Nat} {a b : Value} (h : w.heap[g]? = some (.cells #[a, b] 59 (0, 0))) (x y : Value) (hg : gw ≤ g) :
    ((w.setCell ⟨g, 0, none⟩ x).setCell ⟨g, 1, none⟩ y).cell? ⟨g, 0, none⟩ = some x ∧ ((w.setCell ⟨g, 0, none⟩ x).setCell ⟨g, 1, none⟩ y).cell? ⟨g, 1, none⟩ = some y ∧ Below gw w ((w.setCell ⟨g, 0, none⟩ x).setCell ⟨g, 1, none⟩ y) := by
  have hb : ((w.setCell ⟨g, 0, none⟩ x).setCell ⟨g, 1, none⟩ y).heap[g]? = some (.cells #[x, y] 59 (0, 0)) := by
    simp [World.setCell, Array.getElem?_modify, h]
  refine ⟨by rw [Lib.cell_of_heap hb]; rfl, by rw [Lib.cell_of_heap hb]; rfl, ?_⟩
  exact ((Below.refl gw w).setCell (p := ⟨g, 0, none⟩) hg x).setCell (p := ⟨g, 1, none⟩) hg y
end Go.Proofs.YtgchgdkpipanjaaGreatDoor
