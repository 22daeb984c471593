/- slices.Insert of one file into a row of the call's own: the contract. -/
import Derived.Test.YtgchgdkpipanjaaGreatDoorKFiles
import Derived.Laws.CopyOwn
import Derived.Laws.NewBlocks
import Derived.Lib.Overlaps
import Derived.Lib.AppendZerosOnto
import Derived.Deep.RegionLaw
import Derived.Shelf.RegionOpen
import Derived.Lib.JoinLaws
namespace Go.Proofs.YtgchgdkpipanjaaGreatDoor
open Go Go.RowKit

/-- copy of n elements of k cells each, into a row that is known whole. -/
theorem run_copy_rowK {P : Program} (w : World) (dT sT ty elem : TypeId) (g o dLen dCap : Nat) (a : Addr) (sLen sCap k n : Nat) (cur : Array Value) (t : TypeId) (cs : List Value)
    (hu : P.underlying dT = some (.slice elem)) (hs : (P.info? elem).map (·.size) = some k)
    (hg : w.heap[g]? = some (.cells cur t (0, 0))) (hn : n = Nat.min sLen dLen) (hcs : cs.length = n * k)
    (hsrc : ∀ j v, cs[j]? = some v → w.cell? (a.add j) = some v) (hfit : o + cs.length ≤ cur.size) (h1 : ∀ v ∈ cs, v.oneCell' = true) :
    (Builtin.copy_ #[dT, sT] ty #[.slice (some ⟨g, o, none⟩) dLen dCap, .slice (some a) sLen sCap]).run P w =
      .ok (goInt n) (w.setRow g (splice cur.toList o cs).toArray) := by
  have hl := run_loadCells_list (P := P) w a cs hsrc
  have hst := run_storeCells_at P g o t cs 0 cur w hg (by simpa using hfit) h1
  cases hq : P.info? elem with
  | none => simp [hq] at hs
  | some i =>
    have hi : i.size = k := by simpa [hq] using hs
    rw [hcs] at hl
    simp only [Nat.add_zero] at hst
    simp [Builtin.copy_, run_underlying hu, Builtin.lenOf, Builtin.firstCells, sizeOf, typeInfo, hq, hi, ← hn, hl, hst, splice]
theorem step_copyR {P : Program} {ops : Array Oper} {o : Oper} {a : Act} {w : World} {K : Act → World → Prop} {Q : Exit → Act → World → Prop} {E : Prop}
    (hg : o.guard = none) (d x : Operand) (dT sT : TypeId) (hop : o.op = Op.call { callee := Callee.builtin Builtin.copy, args := #[d, x], argTypes := #[dT, sT] })
    (v u : Value) (hd : a.eval d = v) (hx : a.eval x = u) {v' : Value} {w' : World} (hr : (Builtin.copy_ #[dT, sT] o.type #[v, u]).run P w = .ok v' w') (hK : K (a.put o.dst v') w') :
    if Region.wanted o (yielded ops a.tmps) = true then Oper.wp P o a w K Q else E := by
  have hw : Region.wanted o (yielded ops a.tmps) = true := by simp [Region.wanted, hg]
  rw [if_pos hw]
  unfold Oper.wp
  simp [execOp, hop, resolve, invoke, builtin, hd, hx, hr, Result.andThen]
  exact hK

theorem splice_len {α : Type} (L : List α) (o : Nat) (cs : List α) (h : o + cs.length ≤ L.length) : (splice L o cs).length = L.length := length_splice L o cs h
theorem take_is {α : Type} {M A R : List α} {n : Nat} (h : M = A ++ R) (hn : A.length = n) : M.take n = A := by rw [h, ← hn, List.take_left]
/-- Moved up, then filled. -/
theorem splice_up {α : Type} (L xs e : List α) (a : Nat) (ha : a ≤ xs.length) (hL : xs.length + e.length ≤ L.length) (ht : L.take xs.length = xs) :
    (splice (splice L (a + e.length) (xs.drop a)) a e).take (xs.length + e.length) = xs.take a ++ (e ++ xs.drop a) := by
  have hd : (xs.drop a).length = xs.length - a := List.length_drop
  have e0 : L.take a = xs.take a := by
    have : (L.take xs.length).take a = L.take a := by rw [List.take_take, Nat.min_eq_left ha]
    rw [← this, ht]
  have e1 : (splice L (a + e.length) (xs.drop a)).take a = xs.take a := by
    unfold splice
    rw [List.take_append_of_le_length (by rw [List.length_take]; omega), List.take_take, Nat.min_eq_left (by omega), e0]
  have e2 : (splice L (a + e.length) (xs.drop a)).drop (a + e.length) = xs.drop a ++ L.drop (a + e.length + (xs.drop a).length) := by
    unfold splice
    exact List.drop_left' (by rw [List.length_take]; omega)
  refine take_is (R := L.drop (a + e.length + (xs.drop a).length)) ?_ (by rw [List.length_append, List.length_append, List.length_take, hd]; omega)
  show (splice L (a + e.length) (xs.drop a)).take a ++ (e ++ (splice L (a + e.length) (xs.drop a)).drop (a + e.length)) = _
  rw [e1, e2]
  simp only [List.append_assoc]
/-- Filled, then what lay behind. -/
theorem splice_new {α : Type} (L xs e : List α) (a : Nat) (ha : a ≤ xs.length) (_ : xs.length + e.length ≤ L.length) (ht : L.take a = xs.take a) :
    (splice (splice L a e) (a + e.length) (xs.drop a)).take (xs.length + e.length) = xs.take a ++ (e ++ xs.drop a) := by
  have hd : (xs.drop a).length = xs.length - a := List.length_drop
  have e1 : (splice L a e).take (a + e.length) = xs.take a ++ e := by
    refine take_is (R := L.drop (a + e.length)) ?_ (by rw [List.length_append, List.length_take]; omega)
    show L.take a ++ (e ++ L.drop (a + e.length)) = _
    rw [ht, List.append_assoc]
  refine take_is (R := (splice L a e).drop (a + e.length + (xs.drop a).length)) ?_ (by rw [List.length_append, List.length_append, List.length_take, hd]; omega)
  show (splice L a e).take (a + e.length) ++ (xs.drop a ++ (splice L a e).drop (a + e.length + (xs.drop a).length)) = _
  rw [e1]
  simp only [List.append_assoc]
theorem row_cells {w : World} {g : Nat} {cur : Array Value} {t : TypeId} {xs : List Value} (hg : w.heap[g]? = some (.cells cur t (0, 0))) (ht : cur.toList.take xs.length = xs) : ∀ j v, xs[j]? = some v → w.cell? ⟨g, j, none⟩ = some v := by
  intro j v hj
  have hl : j < xs.length := (List.getElem?_eq_some_iff.1 hj).1
  rw [← ht, List.getElem?_take_of_lt hl, Array.getElem?_toList] at hj
  simp [World.cell?, hg, hj]
theorem setRow_block {w : World} {g : Nat} {cur c' : Array Value} {t : TypeId} (hg : w.heap[g]? = some (.cells cur t (0, 0))) : (w.setRow g c').heap[g]? = some (.cells c' t (0, 0)) := setRow_heap w g cur c' t (0, 0) hg
end Go.Proofs.YtgchgdkpipanjaaGreatDoor
