/- Trees, in plain Lean: what is wrong with one. Files in memory; tree.clash: contracts. tree.Check: the contract. -/
import Derived.Test.YtgchgdkpipanjaaGreatDoorKPathed
import Derived.Test.YtgchgdkpipanjaaGreatDoorKRowed
import Derived.Test.YtgchgdkpipanjaaGreatDoorKTold
import Derived.Deep.QuietTactic
import Derived.Deep.RegionHeld3
import Derived.BigQuiet
import Derived.IntWalk
import Derived.Laws.Cover1
namespace Go.Proofs.YtgchgdkpipanjaaGreatDoor
open Go

structure FileB where
  path : ByteArray
  run : Bool
  text : ByteArray
/-- Is one text no greater than another? (As Go orders texts.) -/
def leqB (a b : List UInt8) : Bool := Op.bytesLess a b || (a == b)
/-- Does a path not come behind the last one ahead? -/
def afterB (ahead : List FileB) (p : List UInt8) : Bool := match ahead.getLast? with | none => false | some g => leqB p (bl g.path)
/-- What is wrong with a file, given those ahead of it. -/
def fileE (ahead : List FileB) (f : FileB) : Nat :=
  if partsE (bl f.path) ≠ 0 then partsE (bl f.path)
  else if 4000 < f.text.size then 2
  else if afterB ahead (bl f.path) = true then 9
  else if ahead.any (fun g => inB (bl f.path) (bl g.path)) = true then 11
  else 0
def filesE : List FileB → Nat → List FileB → Option (Nat × Nat)
  | _, _, [] => none
  | ahead, i, f :: l => if fileE ahead f = 0 then filesE (ahead ++ [f]) (i + 1) l else some (i, fileE ahead f)
def allText (l : List FileB) : Nat := (l.map (·.text.size)).sum
theorem afterB_some {l : List FileB} {g : FileB} {p : List UInt8} (h : l.getLast? = some g) : afterB l p = leqB p (bl g.path) := by unfold afterB; rw [h]
end Go.Proofs.YtgchgdkpipanjaaGreatDoor

namespace Go.Proofs.YtgchgdkpipanjaaGreatDoor
open Go Go.RowKit

abbrev encFile (f : FileB) : List Value := [.string f.path, .bool f.run, .string f.text]
/-- Files that are read: where there are none, the slice may have any address. -/
def FRow (w : World) (v : Value) (l : List FileB) : Prop :=
  ∃ ao cap, v = .slice ao l.length cap ∧ l.length ≤ cap ∧ cap ≤ maxLen ∧ (∀ i, i < l.length → ∃ b off, ao = some ⟨b, off, none⟩ ∧ b < w.heap.size ∧
    ∀ k, (hk : k < l.length) → w.cell? ⟨b, off + k * 3, none⟩ = some (.string l[k].path) ∧ w.cell? ⟨b, off + k * 3 + 1, none⟩ = some (.bool l[k].run) ∧ w.cell? ⟨b, off + k * 3 + 2, none⟩ = some (.string l[k].text))
theorem FRow.ext {w w' : World} {v : Value} {l : List FileB} (h : FRow w v l) (hb : Below w.heap.size w w') : FRow w' v l := by
  obtain ⟨ao, cap, h1, h2, h3, h4⟩ := h
  refine ⟨ao, cap, h1, h2, h3, fun i hi => ?_⟩
  obtain ⟨b, off, e, hbl, hc⟩ := h4 i hi
  refine ⟨b, off, e, Nat.lt_of_lt_of_le hbl hb.size, fun k hk => ?_⟩
  obtain ⟨q0, q1, q2⟩ := hc k hk
  exact ⟨by rw [hb.cell (p := ⟨b, off + k * 3, none⟩) hbl]; exact q0, by rw [hb.cell (p := ⟨b, off + k * 3 + 1, none⟩) hbl]; exact q1, by rw [hb.cell (p := ⟨b, off + k * 3 + 2, none⟩) hbl]; exact q2⟩
/-- The first files of a row. -/
theorem FRow.take {w : World} {b off n cap : Nat} {l : List FileB} (h : ∀ k, (hk : k < l.length) → w.cell? ⟨b, off + k * 3, none⟩ = some (.string l[k].path) ∧ w.cell? ⟨b, off + k * 3 + 1, none⟩ = some (.bool l[k].run) ∧ w.cell? ⟨b, off + k * 3 + 2, none⟩ = some (.string l[k].text))
    (hb : b < w.heap.size) (hn : n ≤ l.length) (hc : n ≤ cap) (hm : cap ≤ maxLen) : FRow w (.slice (some ⟨b, off, none⟩) n cap) (l.take n) := by
  have hl : (l.take n).length = n := by rw [List.length_take]; omega
  refine ⟨some ⟨b, off, none⟩, cap, by rw [hl], by rw [hl]; exact hc, hm, fun i hi => ⟨b, off, rfl, hb, fun k hk => ?_⟩⟩
  rw [hl] at hk
  have := h k (by omega)
  rw [List.getElem_take]
  exact this
end Go.Proofs.YtgchgdkpipanjaaGreatDoor

namespace Go.Proofs.YtgchgdkpipanjaaGreatDoor
open Go Go.RowKit

/-- A tree's fault, as an error. -/
def treeEr (l : List FileB) : Er :=
  if 30 < l.length then ⟨8, none⟩ else match filesE [] 0 l with
    | some p => ⟨p.2, some (p.1 : Int)⟩
    | none => if 12000 < allText l then ⟨2, none⟩ else ⟨0, none⟩
/-- The environment of trees. -/
def FEnv (E : Nat → Addr) (w : World) : Prop := Env E w ∧ PEnv E w
theorem FEnv.ext {E : Nat → Addr} {w w' : World} (h : FEnv E w) (hb : Below w.heap.size w w') : FEnv E w' := ⟨h.1.ext hb, h.2.ext hb⟩
end Go.Proofs.YtgchgdkpipanjaaGreatDoor
