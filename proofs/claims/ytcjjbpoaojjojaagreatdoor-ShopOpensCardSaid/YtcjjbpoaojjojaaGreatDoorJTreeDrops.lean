/- slices.Delete of one file of a row of the call's own; slices.IndexFunc by path: contracts. tree.Drop: the contract. -/
import Derived.Test.YtcjjbpoaojjojaaGreatDoorJTreeSearchEtc
import Derived.Test.YtcjjbpoaojjojaaGreatDoorJFilesEtc
import Derived.Test.YtcjjbpoaojjojaaGreatDoorJTreePlains
import Derived.IntWalk
import Derived.Test.YtcjjbpoaojjojaaGreatDoorJTreeSortEtc
namespace Go.Proofs.YtcjjbpoaojjojaaGreatDoor
open Go Go.RowKit

theorem setCells_row {w : World} {g o : Nat} {cur : Array Value} {t : TypeId} {cs : List Value} (hg : w.heap[g]? = some (.cells cur t (0, 0))) (hfit : o + cs.length ≤ cur.size) (h1 : ∀ v ∈ cs, v.oneCell' = true) :
    w.setCells g o cs = w.setRow g (splice cur.toList o cs).toArray := by
  have a := run_storeCells_cells (P := Tryz.prog) g o cs 0 w (fun j hj => by rw [Lib.cell_of_heap hg, Array.getElem?_eq_getElem (by omega)]; rfl) (fun j hj => Lib.frozen_of_heap hg _) h1
  have b := run_storeCells_at Tryz.prog g o t cs 0 cur w hg (by simpa using hfit) h1
  rw [a] at b
  simp only [Nat.add_zero] at b
  injection b with _ b
  rw [b, List.append_assoc]; rfl
theorem del_take {α : Type} (L xs z : List α) (a c : Nat) (hac : a ≤ c) (hc : c ≤ xs.length) (hL : xs.length ≤ L.length) (ht : L.take xs.length = xs) (_ : z.length = c - a) :
    (splice (splice L a (xs.drop c)) (a + (xs.drop c).length) z).take (a + (xs.drop c).length) = xs.take a ++ xs.drop c := by
  have hd : (xs.drop c).length = xs.length - c := List.length_drop
  have e0 : L.take a = xs.take a := by
    have : (L.take xs.length).take a = L.take a := by rw [List.take_take, Nat.min_eq_left (by omega)]
    rw [← this, ht]
  have e1 : (splice L a (xs.drop c)).take (a + (xs.drop c).length) = xs.take a ++ xs.drop c := by
    refine take_is (R := L.drop (a + (xs.drop c).length)) ?_ (by rw [List.length_append, List.length_take]; omega)
    show L.take a ++ (xs.drop c ++ L.drop (a + (xs.drop c).length)) = _
    rw [e0, List.append_assoc]
  have hs : (splice L a (xs.drop c)).length = L.length := splice_len _ _ _ (by omega)
  refine take_is (R := z ++ (splice L a (xs.drop c)).drop (a + (xs.drop c).length + z.length)) ?_ (by rw [List.length_append, List.length_take]; omega)
  show (splice L a (xs.drop c)).take (a + (xs.drop c).length) ++ (z ++ _) = _
  rw [e1]

end Go.Proofs.YtcjjbpoaojjojaaGreatDoor

namespace Go.Proofs.YtcjjbpoaojjojaaGreatDoor
open Go Go.RowKit

end Go.Proofs.YtcjjbpoaojjojaaGreatDoor
