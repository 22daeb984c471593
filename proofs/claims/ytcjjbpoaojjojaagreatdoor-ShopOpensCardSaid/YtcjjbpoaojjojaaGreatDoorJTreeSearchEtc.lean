/- slices.Insert of one file into a row of the call's own: the contract. slices.Insert of one file: the walk. slices.BinarySearchFunc by tree.compare, over files in order: the contract. tree.Put: the contract. chandlerylaw1.rooted: a closed fact. chandlerylaw1.TreeStrips: the walk. -/
import Derived.Test.YtcjjbpoaojjojaaGreatDoorJFilesEtc
import Derived.Laws.CopyOwn
import Derived.Laws.NewBlocks
import Derived.Lib.Overlaps
import Derived.Lib.AppendZerosOnto
import Derived.Deep.RegionLaw
import Derived.Shelf.RegionOpen
import Derived.Lib.JoinLaws
import Derived.Test.YtcjjbpoaojjojaaGreatDoorJSortTail
import Derived.Test.YtcjjbpoaojjojaaGreatDoorJTreePlains
import Derived.Test.YtcjjbpoaojjojaaGreatDoorJTreeSortEtc
import Derived.Deep.CutRange
import Derived.Test.YtcjjbpoaojjojaaGreatDoorJToldEtc
import Derived.Test.YtcjjbpoaojjojaaGreatDoorJPathedEtc
namespace Go.Proofs.YtcjjbpoaojjojaaGreatDoor
open Go Go.RowKit

/-- copy of n elements of k cells each, into a row that is known whole. -/
theorem run_copy_rowK {P : Program} (w : World) (dT sT ty elem : TypeId) (g o dLen dCap : Nat) (a : Addr) (sLen sCap k n : Nat) (cur : Array Value) (t : TypeId) (cs : List Value)
    (hu : P.underlying dT = some (.slice elem)) (hs : (P.info? elem).map (·.size) = some k)
    (hg : w.heap[g]? = some (.cells cur t (0, 0))) (hn : n = Nat.min sLen dLen) (hcs : cs.length = n * k)
    (hsrc : ∀ j v, cs[j]? = some v → w.cell? (a.add j) = some v) (hfit : o + cs.length ≤ cur.size) (h1 : ∀ v ∈ cs, v.oneCell' = true) :
    (Builtin.copy_ #[dT, sT] ty #[.slice (some ⟨g, o, none⟩) dLen dCap, .slice (some a) sLen sCap]).run P w =
      .ok (goInt n) (w.setRow g (splice cur.toList o cs).toArray) := by
  have hl := run_loadCells_list (P := P) w a cs hsrc
  have hst := run_storeCells_at P g o t cs 0 cur w hg (by simpa using hfit) h1
  cases hq : P.info? elem with
  | none => simp [hq] at hs
  | some i =>
    have hi : i.size = k := by simpa [hq] using hs
    rw [hcs] at hl
    simp only [Nat.add_zero] at hst
    simp [Builtin.copy_, run_underlying hu, Builtin.lenOf, Builtin.firstCells, sizeOf, typeInfo, hq, hi, ← hn, hl, hst, splice]
theorem step_copyR {P : Program} {ops : Array Oper} {o : Oper} {a : Act} {w : World} {K : Act → World → Prop} {Q : Exit → Act → World → Prop} {E : Prop}
    (hg : o.guard = none) (d x : Operand) (dT sT : TypeId) (hop : o.op = Op.call { callee := Callee.builtin Builtin.copy, args := #[d, x], argTypes := #[dT, sT] })
    (v u : Value) (hd : a.eval d = v) (hx : a.eval x = u) {v' : Value} {w' : World} (hr : (Builtin.copy_ #[dT, sT] o.type #[v, u]).run P w = .ok v' w') (hK : K (a.put o.dst v') w') :
    if Region.wanted o (yielded ops a.tmps) = true then Oper.wp P o a w K Q else E := by
  have hw : Region.wanted o (yielded ops a.tmps) = true := by simp [Region.wanted, hg]
  rw [if_pos hw]
  unfold Oper.wp
  simp [execOp, hop, resolve, invoke, builtin, hd, hx, hr, Result.andThen]
  exact hK

theorem splice_len {α : Type} (L : List α) (o : Nat) (cs : List α) (h : o + cs.length ≤ L.length) : (splice L o cs).length = L.length := length_splice L o cs h
theorem take_is {α : Type} {M A R : List α} {n : Nat} (h : M = A ++ R) (hn : A.length = n) : M.take n = A := by rw [h, ← hn, List.take_left]
/-- Moved up, then filled. -/
theorem splice_up {α : Type} (L xs e : List α) (a : Nat) (ha : a ≤ xs.length) (hL : xs.length + e.length ≤ L.length) (ht : L.take xs.length = xs) :
    (splice (splice L (a + e.length) (xs.drop a)) a e).take (xs.length + e.length) = xs.take a ++ (e ++ xs.drop a) := by
  have hd : (xs.drop a).length = xs.length - a := List.length_drop
  have e0 : L.take a = xs.take a := by
    have : (L.take xs.length).take a = L.take a := by rw [List.take_take, Nat.min_eq_left ha]
    rw [← this, ht]
  have e1 : (splice L (a + e.length) (xs.drop a)).take a = xs.take a := by
    unfold splice
    rw [List.take_append_of_le_length (by rw [List.length_take]; omega), List.take_take, Nat.min_eq_left (by omega), e0]
  have e2 : (splice L (a + e.length) (xs.drop a)).drop (a + e.length) = xs.drop a ++ L.drop (a + e.length + (xs.drop a).length) := by
    unfold splice
    exact List.drop_left' (by rw [List.length_take]; omega)
  refine take_is (R := L.drop (a + e.length + (xs.drop a).length)) ?_ (by rw [List.length_append, List.length_append, List.length_take, hd]; omega)
  show (splice L (a + e.length) (xs.drop a)).take a ++ (e ++ (splice L (a + e.length) (xs.drop a)).drop (a + e.length)) = _
  rw [e1, e2]
  simp only [List.append_assoc]
/-- Filled, then what lay behind. -/
theorem splice_new {α : Type} (L xs e : List α) (a : Nat) (ha : a ≤ xs.length) (_ : xs.length + e.length ≤ L.length) (ht : L.take a = xs.take a) :
    (splice (splice L a e) (a + e.length) (xs.drop a)).take (xs.length + e.length) = xs.take a ++ (e ++ xs.drop a) := by
  have hd : (xs.drop a).length = xs.length - a := List.length_drop
  have e1 : (splice L a e).take (a + e.length) = xs.take a ++ e := by
    refine take_is (R := L.drop (a + e.length)) ?_ (by rw [List.length_append, List.length_take]; omega)
    show L.take a ++ (e ++ L.drop (a + e.length)) = _
    rw [ht, List.append_assoc]
  refine take_is (R := (splice L a e).drop (a + e.length + (xs.drop a).length)) ?_ (by rw [List.length_append, List.length_append, List.length_take, hd]; omega)
  show (splice L a e).take (a + e.length) ++ (xs.drop a ++ (splice L a e).drop (a + e.length + (xs.drop a).length)) = _
  rw [e1]
  simp only [List.append_assoc]
theorem row_cells {w : World} {g : Nat} {cur : Array Value} {t : TypeId} {xs : List Value} (hg : w.heap[g]? = some (.cells cur t (0, 0))) (ht : cur.toList.take xs.length = xs) : ∀ j v, xs[j]? = some v → w.cell? ⟨g, j, none⟩ = some v := by
  intro j v hj
  have hl : j < xs.length := (List.getElem?_eq_some_iff.1 hj).1
  rw [← ht, List.getElem?_take_of_lt hl, Array.getElem?_toList] at hj
  simp [World.cell?, hg, hj]
theorem enc_len (l : List FileB) : (l.flatMap encFile).length = l.length * 3 := flatMap_len encFile 3 (fun _ => rfl) l
theorem enc_take : ∀ (l : List FileB) (i : Nat), (l.flatMap encFile).take (i * 3) = (l.take i).flatMap encFile
  | [], i => by simp
  | f :: l, 0 => by simp
  | f :: l, i + 1 => by
    rw [List.take_succ_cons, List.flatMap_cons, List.flatMap_cons, ← enc_take l i, show (i + 1) * 3 = (encFile f).length + i * 3 by show _ = 3 + _; omega, List.take_length_add_append]
theorem enc_drop : ∀ (l : List FileB) (i : Nat), (l.flatMap encFile).drop (i * 3) = (l.drop i).flatMap encFile
  | [], i => by simp
  | f :: l, 0 => by simp
  | f :: l, i + 1 => by
    rw [List.drop_succ_cons, List.flatMap_cons, ← enc_drop l i, show (i + 1) * 3 = (encFile f).length + i * 3 by show _ = 3 + _; omega, List.drop_length_add_append]
theorem setRow_block {w : World} {g : Nat} {cur c' : Array Value} {t : TypeId} (hg : w.heap[g]? = some (.cells cur t (0, 0))) : (w.setRow g c').heap[g]? = some (.cells c' t (0, 0)) := setRow_heap w g cur c' t (0, 0) hg
end Go.Proofs.YtcjjbpoaojjojaaGreatDoor

namespace Go.Proofs.YtcjjbpoaojjojaaGreatDoor
open Go Go.RowKit

end Go.Proofs.YtcjjbpoaojjojaaGreatDoor

namespace Go.Proofs.YtcjjbpoaojjojaaGreatDoor
open Go Go.RowKit Go.Lib Go.Sort

end Go.Proofs.YtcjjbpoaojjojaaGreatDoor

namespace Go.Proofs.YtcjjbpoaojjojaaGreatDoor
open Go Go.RowKit

theorem splice_take {α : Type} (L cs : List α) (o n : Nat) (h : o + cs.length ≤ n) (hn : n ≤ L.length) : (splice L o cs).take n = splice (L.take n) o cs := by
  unfold splice
  rw [List.take_append, List.take_append, List.take_take, List.take_take, List.length_take, List.drop_take, Nat.min_eq_right (show o ≤ n by omega), Nat.min_eq_left (show o ≤ n by omega), Nat.min_eq_left (show o ≤ L.length by omega), List.take_of_length_le (l := cs) (by omega), show n - o - cs.length = n - (o + cs.length) by omega]
theorem set3 {α : Type} (L : List α) (o : Nat) (x y z : α) (h : o + 3 ≤ L.length) : ((L.set o x).set (o + 1) y).set (o + 2) z = splice L o [x, y, z] := by
  apply List.ext_getElem?
  intro j
  unfold splice
  simp only [List.getElem?_set, List.getElem?_append, List.length_take, List.length_cons, List.length_nil, List.getElem?_take, List.getElem?_drop, List.length_set]
  rw [Nat.min_eq_left (show o ≤ L.length by omega)]
  by_cases c1 : j < o
  · rw [if_neg (by omega), if_neg (by omega), if_neg (by omega), if_pos c1, if_pos c1]
  · by_cases c2 : j < o + 3
    · have : j = o ∨ j = o + 1 ∨ j = o + 2 := by omega
      have h0 : o < L.length := by omega
      have h1 : o + 1 < L.length := by omega
      have h2 : o + 2 < L.length := by omega
      rcases this with rfl | rfl | rfl
      · simp [h0]
      · simp [h1]; omega
      · simp [h2]; omega
    · rw [if_neg (by omega), if_neg (by omega), if_neg (by omega), if_neg c1, if_neg (by omega)]
      congr 1; omega
/-- One file written over. -/
theorem FOwn.over {w : World} {base g cap k : Nat} {cur : Array Value} {l : List FileB} (f : FileB) (hb : base ≤ g) (hg : w.heap[g]? = some (.cells cur 149 (0, 0))) (hn : l.length ≤ cap) (hc : cap ≤ maxLen) (hs : cur.size = cap * 3) (ht : cur.toList.take (l.length * 3) = l.flatMap encFile) (hk : k < l.length) :
    FOwn (((w.setCell ⟨g, k * 3, none⟩ (.string f.path)).setCell ⟨g, k * 3 + 1, none⟩ (.bool f.run)).setCell ⟨g, k * 3 + 2, none⟩ (.string f.text)) base (.slice (some ⟨g, 0, none⟩) l.length cap) (l.take k ++ f :: l.drop (k + 1)) ∧
    Below base w (((w.setCell ⟨g, k * 3, none⟩ (.string f.path)).setCell ⟨g, k * 3 + 1, none⟩ (.bool f.run)).setCell ⟨g, k * 3 + 2, none⟩ (.string f.text)) := by
  have e1 := setCell_eq_setRow w g (k * 3) cur 149 (0, 0) (.string f.path) hg
  have g1 := setRow_block (c' := cur.setIfInBounds (k * 3) (.string f.path)) hg
  have e2 := setCell_eq_setRow _ g (k * 3 + 1) _ 149 (0, 0) (.bool f.run) g1
  have g2 := setRow_block (c' := (cur.setIfInBounds (k * 3) (.string f.path)).setIfInBounds (k * 3 + 1) (.bool f.run)) g1
  have e3 := setCell_eq_setRow _ g (k * 3 + 2) _ 149 (0, 0) (.string f.text) g2
  have g3 := setRow_block (c' := ((cur.setIfInBounds (k * 3) (.string f.path)).setIfInBounds (k * 3 + 1) (.bool f.run)).setIfInBounds (k * 3 + 2) (.string f.text)) g2
  rw [e1, e2, e3]
  refine ⟨?_, below_setRow (below_setRow (below_setRow (Below.refl _ _) hb _) hb _) hb _⟩
  have hlen : (l.take k ++ f :: l.drop (k + 1)).length = l.length := by simp; omega
  have hL : cur.toList.length = cap * 3 := by rw [Array.length_toList, hs]
  have hM : (((cur.setIfInBounds (k * 3) (.string f.path)).setIfInBounds (k * 3 + 1) (.bool f.run)).setIfInBounds (k * 3 + 2) (.string f.text)).toList.take (l.length * 3) = (l.take k ++ f :: l.drop (k + 1)).flatMap encFile := by
    rw [Array.toList_setIfInBounds, Array.toList_setIfInBounds, Array.toList_setIfInBounds, set3 _ _ _ _ _ (by omega), splice_take _ _ _ _ (by show k * 3 + 3 ≤ _; omega) (by omega), ht]
    unfold splice
    rw [List.flatMap_append, List.flatMap_cons, ← enc_take, ← enc_drop, show k * 3 + [Value.string f.path, .bool f.run, .string f.text].length = (k + 1) * 3 by show _ + 3 = _; omega]
  show World.ownsRow _ _ _ _ _ _ _
  rw [hlen]
  exact ⟨by rw [enc_len, hlen], .inr ⟨g, cap, _, rfl, hb, g3, hn, hc, by simp [hs], hM⟩⟩
end Go.Proofs.YtcjjbpoaojjojaaGreatDoor

namespace Go.Proofs.YtcjjbpoaojjojaaGreatDoor
open Go Go.RowKit

end Go.Proofs.YtcjjbpoaojjojaaGreatDoor

namespace Go.Proofs.YtcjjbpoaojjojaaGreatDoor
open Go Go.RowKit

theorem TreeOk.small {l : List FileB} (h : TreeOk l) : ∀ f ∈ l, SmallF f ∧ f.path.size ≤ 9000 := fun f hf => by
  obtain ⟨h1, h2⟩ := h.each f hf
  have h3 : (bl f.path).length ≤ 78 := by
    have := path_clean h1
    have := cleanT_len this.1
    rwa [(path_clean h1).2] at this
  rw [bl_length] at h3
  exact ⟨⟨by omega, by omega⟩, by omega⟩
theorem FRow.len {w : World} {v : Value} {l : List FileB} (h : FRow w v l) : ∃ ao cap, v = .slice ao l.length cap := by
  obtain ⟨ao, cap, e, _⟩ := h
  exact ⟨ao, cap, e⟩
end Go.Proofs.YtcjjbpoaojjojaaGreatDoor
