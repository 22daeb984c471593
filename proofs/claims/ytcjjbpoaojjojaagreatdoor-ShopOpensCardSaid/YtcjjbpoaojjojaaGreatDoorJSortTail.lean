/- The stable sort's merging at files: symMergeCmpFunc, whole. The stable sort at files: stableCmpFunc, SortStableFunc: contracts. What the shelf's insertion sort asks of this program's own copy. (Laid by the kit's tools; the numbers by name.) The stable sort at files: SortStableFunc, by the shelf's insertion sort and the merging. slices.Values, slices.AppendSeq, slices.Collect at files: contracts. The stable sort at files: slices.SortedStableFunc by tree.compare: the row that is owned behind it. -/
import Derived.Test.YtcjjbpoaojjojaaGreatDoorJSortSymAB
import Derived.Test.YtcjjbpoaojjojaaGreatDoorJSortPlainlyEtc
import Derived.Shelf.SlSortCmp.InsertionK
import Derived.Shelf.SlGeneric
import Derived.Ground.SlsfProg
import Derived.Test.YtcjjbpoaojjojaaGreatDoorProg
import Derived.Shelf.SlSortFuncK.ComposeK
import Derived.Test.YtcjjbpoaojjojaaGreatDoorJRanged
import Derived.Test.YtcjjbpoaojjojaaGreatDoorJFilesEtc
import Derived.BigRegionIn
import Derived.Test.YtcjjbpoaojjojaaGreatDoorJTreePlains
import Derived.Sort.OwnSorted
namespace Go.Proofs.YtcjjbpoaojjojaaGreatDoor
open Go Go.RowKit Go.Lib Go.Sort

end Go.Proofs.YtcjjbpoaojjojaaGreatDoor

namespace Go.Proofs.YtcjjbpoaojjojaaGreatDoor
open Go Go.RowKit Go.Lib Go.Sort

end Go.Proofs.YtcjjbpoaojjojaaGreatDoor

namespace Go.Proofs
open Go.Shelf
end Go.Proofs

namespace Go.Proofs.YtcjjbpoaojjojaaGreatDoor
open Go Go.Shelf Go.RowKit Go.Lib Go.Sort

end Go.Proofs.YtcjjbpoaojjojaaGreatDoor

namespace Go.Proofs.YtcjjbpoaojjojaaGreatDoor
open Go Go.RowKit Go.Shelf
attribute [local go_sem] Oper.semAt_some

/-- What is said stays true when a block that is no cells and lies at or beyond B is turned. -/
def Calm0 {β : Type} (B : Nat) (I : β → World → Prop) : Prop :=
  ∀ s W W' row, I s W → W.grownBy W' row → (∀ r, row = some r → B ≤ r ∧ ∃ o : Obj, W.heap[r]? = some o ∧ o.isCells = false) → I s W'
theorem Calm0.put {β : Type} {B : Nat} {I : β → World → Prop} (h : Calm0 B I) {s : β} {W : World} {l : Nat} {o : Obj} (o' : Obj) (hs : I s W) (hB : B ≤ l) (hl : W.heap[l]? = some o) (ho : o.isCells = false) : I s (W.putObj l o') :=
  h s W _ (some l) hs (grownBy_putObj' W l o') (fun r e => by cases e; exact ⟨hB, o, hl, ho⟩)
theorem Calm0.alloc {β : Type} {B : Nat} {I : β → World → Prop} (h : Calm0 B I) {s : β} {W : World} (o : Obj) (hs : I s W) : I s (W.alloc o) :=
  h s W _ none hs (World.grownBy_alloc W o none) (fun r e => by cases e)
variable {F : Fence} {n : Nat} {P : Program}
end Go.Proofs.YtcjjbpoaojjojaaGreatDoor

namespace Go.Proofs.YtcjjbpoaojjojaaGreatDoor
open Go Go.Shelf Go.RowKit Go.Lib Go.Sort

theorem flatK_files (d : Array FileB) : (flatK encFile 3 d).toList = d.toList.flatMap encFile := by
  apply List.ext_getElem?
  intro j
  by_cases hj : j < d.size * 3
  · have hi : j / 3 < d.toList.length := by rw [Array.length_toList]; omega
    have e := flatMap_at encFile 3 (fun _ => rfl) d.toList (j / 3) (j % 3) hi (by omega)
    rw [show j / 3 * 3 + j % 3 = j by omega] at e
    rw [e, Array.getElem?_toList]
    have hs : j < (flatK encFile 3 d).size := by rw [size_flatK]; exact hj
    rw [Array.getElem?_eq_getElem hs]
    have g := get_flatK encFile 3 d j hj
    rw [getElem!_pos _ j hs] at g
    rw [g, getElem!_pos d (j / 3) (by omega)]
    have hl : j % 3 < (encFile d[j / 3]).length := by show _ < 3; omega
    rw [getElem!_pos _ (j % 3) hl]
    show _ = (encFile d[j / 3])[j % 3]?
    rw [List.getElem?_eq_getElem hl]
  · rw [List.getElem?_eq_none (by rw [Array.length_toList, size_flatK]; omega), List.getElem?_eq_none (by rw [flatMap_len encFile 3 (fun _ => rfl), Array.length_toList]; omega)]
theorem heap_putId {w : World} {g n : Nat} {os : Array Obj} {cur : Array Value} {e : TypeId} {fr : Nat × Nat} (d : Array Value) (hb : w.heap[g]? = some (.cells cur e fr)) :
    (grow (putRow id (Sort.ahead w n) g 0 d) os).heap[g]? = some (.cells (putCells id 0 d cur) e fr) := by
  have hg : g < w.heap.size := (Array.getElem?_eq_some_iff.1 hb).1
  rw [heap_grow_old _ _ (by simpa using hg)]
  simp [putRow, mapBlock, Sort.ahead, Array.getElem?_modify, hb, onCells]
theorem grownBy_putId {w : World} {g n : Nat} {os : Array Obj} (d : Array Value) : w.grownBy (grow (putRow id (Sort.ahead w n) g 0 d) os) (some g) := by
  refine ⟨rfl, rfl, rfl, by simp, fun k hk hne => ?_⟩
  rw [heap_grow_old _ _ (by simpa using hk)]
  have : g ≠ k := fun e => hne (by rw [e])
  simp [putRow, mapBlock, Sort.ahead, Array.getElem?_modify, this]
theorem take_putId (cur : Array Value) (d : Array Value) (h : d.size ≤ cur.size) : (putCells id 0 d cur).toList.take d.size = d.toList := by
  apply List.ext_getElem?
  intro j
  by_cases hj : j < d.size
  · rw [List.getElem?_take_of_lt hj, Array.getElem?_toList]
    simp [putCells, hj, show j < cur.size by omega]
  · rw [List.getElem?_take_eq_none (by omega), List.getElem?_eq_none (by simp; omega)]
/-- BEHIND THE SORT the same slice owns the sorted files. -/
theorem SWK.own {w0 w : World} {base g cap : Nat} {cur : Array Value} {d : Array FileB} (S : SWF w0 g 0 d w) (hbase : base ≤ g) (hb : w0.heap[g]? = some (.cells cur 149 (0, 0))) (h1 : d.size ≤ cap) (h2 : cap ≤ maxLen) (h3 : cur.size = cap * 3) :
    FOwn w base (.slice (some ⟨g, 0, none⟩) d.size cap) d.toList ∧ w0.grownBy w (some g) := by
  obtain ⟨n, os, rfl⟩ := S
  refine ⟨?_, grownBy_putId _⟩
  show World.ownsRow _ _ _ _ _ _ _
  rw [← flatK_files, Array.length_toList]
  refine ⟨by simp, .inr ⟨g, cap, _, rfl, hbase, heap_putId _ hb, h1, h2, by simp [putCells, h3], ?_⟩⟩
  have := take_putId cur (flatK encFile 3 d) (by rw [size_flatK]; omega)
  rwa [size_flatK] at this
end Go.Proofs.YtcjjbpoaojjojaaGreatDoor
