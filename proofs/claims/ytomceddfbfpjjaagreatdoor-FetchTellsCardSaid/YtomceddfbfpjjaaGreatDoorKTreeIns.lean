/- slices.Insert of one file into a row of the call's own: the contract. slices.Insert of one file: the walk. tree.Put: the contract. -/
import Derived.Test.YtomceddfbfpjjaaGreatDoorKFiles
import Derived.Laws.CopyOwn
import Derived.Laws.NewBlocks
import Derived.Lib.Overlaps
import Derived.Lib.AppendZerosOnto
import Derived.Deep.RegionLaw
import Derived.Shelf.RegionOpen
import Derived.Lib.JoinLaws
import Derived.Test.YtomceddfbfpjjaaGreatDoorKTreeSearch
import Derived.Test.YtomceddfbfpjjaaGreatDoorKTreeSort
import Derived.Test.YtomceddfbfpjjaaGreatDoorKTreeFew
import Derived.Deep.CutRange
namespace Go.Proofs.YtomceddfbfpjjaaGreatDoor
open Go Go.RowKit

theorem enc_len (l : List FileB) : (l.flatMap encFile).length = l.length * 3 := flatMap_len encFile 3 (fun _ => rfl) l
theorem enc_take : ∀ (l : List FileB) (i : Nat), (l.flatMap encFile).take (i * 3) = (l.take i).flatMap encFile
  | [], i => by simp
  | f :: l, 0 => by simp
  | f :: l, i + 1 => by
    rw [List.take_succ_cons, List.flatMap_cons, List.flatMap_cons, ← enc_take l i, show (i + 1) * 3 = (encFile f).length + i * 3 by show _ = 3 + _; omega, List.take_length_add_append]
theorem enc_drop : ∀ (l : List FileB) (i : Nat), (l.flatMap encFile).drop (i * 3) = (l.drop i).flatMap encFile
  | [], i => by simp
  | f :: l, 0 => by simp
  | f :: l, i + 1 => by
    rw [List.drop_succ_cons, List.flatMap_cons, ← enc_drop l i, show (i + 1) * 3 = (encFile f).length + i * 3 by show _ = 3 + _; omega, List.drop_length_add_append]
theorem setRow_block {w : World} {g : Nat} {cur c' : Array Value} {t : TypeId} (hg : w.heap[g]? = some (.cells cur t (0, 0))) : (w.setRow g c').heap[g]? = some (.cells c' t (0, 0)) := setRow_heap w g cur c' t (0, 0) hg
end Go.Proofs.YtomceddfbfpjjaaGreatDoor

namespace Go.Proofs.YtomceddfbfpjjaaGreatDoor
open Go Go.RowKit

end Go.Proofs.YtomceddfbfpjjaaGreatDoor

namespace Go.Proofs.YtomceddfbfpjjaaGreatDoor
open Go Go.RowKit

theorem splice_take {α : Type} (L cs : List α) (o n : Nat) (h : o + cs.length ≤ n) (hn : n ≤ L.length) : (splice L o cs).take n = splice (L.take n) o cs := by
  unfold splice
  rw [List.take_append, List.take_append, List.take_take, List.take_take, List.length_take, List.drop_take, Nat.min_eq_right (show o ≤ n by omega), Nat.min_eq_left (show o ≤ n by omega), Nat.min_eq_left (show o ≤ L.length by omega), List.take_of_length_le (l := cs) (by omega), show n - o - cs.length = n - (o + cs.length) by omega]
theorem set3 {α : Type} (L : List α) (o : Nat) (x y z : α) (h : o + 3 ≤ L.length) : ((L.set o x).set (o + 1) y).set (o + 2) z = splice L o [x, y, z] := by
  apply List.ext_getElem?
  intro j
  unfold splice
  simp only [List.getElem?_set, List.getElem?_append, List.length_take, List.length_cons, List.length_nil, List.getElem?_take, List.getElem?_drop, List.length_set]
  rw [Nat.min_eq_left (show o ≤ L.length by omega)]
  by_cases c1 : j < o
  · rw [if_neg (by omega), if_neg (by omega), if_neg (by omega), if_pos c1, if_pos c1]
  · by_cases c2 : j < o + 3
    · have : j = o ∨ j = o + 1 ∨ j = o + 2 := by omega
      have h0 : o < L.length := by omega
      have h1 : o + 1 < L.length := by omega
      have h2 : o + 2 < L.length := by omega
      rcases this with rfl | rfl | rfl
      · simp [h0]
      · simp [h1]; omega
      · simp [h2]; omega
    · rw [if_neg (by omega), if_neg (by omega), if_neg (by omega), if_neg c1, if_neg (by omega)]
      congr 1; omega
/-- One file written over. -/
theorem FOwn.over {w : World} {base g cap k : Nat} {cur : Array Value} {l : List FileB} (f : FileB) (hb : base ≤ g) (hg : w.heap[g]? = some (.cells cur 68 (0, 0))) (hn : l.length ≤ cap) (hc : cap ≤ maxLen) (hs : cur.size = cap * 3) (ht : cur.toList.take (l.length * 3) = l.flatMap encFile) (hk : k < l.length) :
    FOwn (((w.setCell ⟨g, k * 3, none⟩ (.string f.path)).setCell ⟨g, k * 3 + 1, none⟩ (.bool f.run)).setCell ⟨g, k * 3 + 2, none⟩ (.string f.text)) base (.slice (some ⟨g, 0, none⟩) l.length cap) (l.take k ++ f :: l.drop (k + 1)) ∧
    Below base w (((w.setCell ⟨g, k * 3, none⟩ (.string f.path)).setCell ⟨g, k * 3 + 1, none⟩ (.bool f.run)).setCell ⟨g, k * 3 + 2, none⟩ (.string f.text)) := by
  have e1 := setCell_eq_setRow w g (k * 3) cur 68 (0, 0) (.string f.path) hg
  have g1 := setRow_block (c' := cur.setIfInBounds (k * 3) (.string f.path)) hg
  have e2 := setCell_eq_setRow _ g (k * 3 + 1) _ 68 (0, 0) (.bool f.run) g1
  have g2 := setRow_block (c' := (cur.setIfInBounds (k * 3) (.string f.path)).setIfInBounds (k * 3 + 1) (.bool f.run)) g1
  have e3 := setCell_eq_setRow _ g (k * 3 + 2) _ 68 (0, 0) (.string f.text) g2
  have g3 := setRow_block (c' := ((cur.setIfInBounds (k * 3) (.string f.path)).setIfInBounds (k * 3 + 1) (.bool f.run)).setIfInBounds (k * 3 + 2) (.string f.text)) g2
  rw [e1, e2, e3]
  refine ⟨?_, below_setRow (below_setRow (below_setRow (Below.refl _ _) hb _) hb _) hb _⟩
  have hlen : (l.take k ++ f :: l.drop (k + 1)).length = l.length := by simp; omega
  have hL : cur.toList.length = cap * 3 := by rw [Array.length_toList, hs]
  have hM : (((cur.setIfInBounds (k * 3) (.string f.path)).setIfInBounds (k * 3 + 1) (.bool f.run)).setIfInBounds (k * 3 + 2) (.string f.text)).toList.take (l.length * 3) = (l.take k ++ f :: l.drop (k + 1)).flatMap encFile := by
    rw [Array.toList_setIfInBounds, Array.toList_setIfInBounds, Array.toList_setIfInBounds, set3 _ _ _ _ _ (by omega), splice_take _ _ _ _ (by show k * 3 + 3 ≤ _; omega) (by omega), ht]
    unfold splice
    rw [List.flatMap_append, List.flatMap_cons, ← enc_take, ← enc_drop, show k * 3 + [Value.string f.path, .bool f.run, .string f.text].length = (k + 1) * 3 by show _ + 3 = _; omega]
  show World.ownsRow _ _ _ _ _ _ _
  rw [hlen]
  exact ⟨by rw [enc_len, hlen], .inr ⟨g, cap, _, rfl, hb, g3, hn, hc, by simp [hs], hM⟩⟩
end Go.Proofs.YtomceddfbfpjjaaGreatDoor
