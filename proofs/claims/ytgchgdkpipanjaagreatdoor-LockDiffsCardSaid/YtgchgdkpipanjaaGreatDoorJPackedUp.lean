/- Packs, in plain Lean. pack.Make, pack.Sum: contracts. -/
import Derived.Test.YtgchgdkpipanjaaGreatDoorJTreed
import Derived.Test.YtgchgdkpipanjaaGreatDoorJPlainly
import Derived.Test.YtgchgdkpipanjaaGreatDoorJTexts
import Derived.Test.YtgchgdkpipanjaaGreatDoorJSummed
import Derived.Test.YtgchgdkpipanjaaGreatDoorJErrors
namespace Go.Proofs.YtgchgdkpipanjaaGreatDoor
open Go

def modeB (r : Bool) : UInt8 := if r then 120 else 102
/-- A file, as a pack has it. -/
def packOne (f : FileB) : List UInt8 := bl f.path ++ ([32, modeB f.run, 32] ++ (Lib.decDigits f.text.size ++ (10 :: (bl f.text ++ [10]))))
/-- Files, as a pack has them. -/
def packL (l : List FileB) : List UInt8 := l.flatMap packOne
theorem packOne_len (f : FileB) (hp : f.path.size ≤ 30000) (ht : f.text.size ≤ 100000) : (packOne f).length ≤ 132000 := by
  have h1 := decDigits_len f.text.size (by omega)
  unfold packOne
  simp only [List.length_append, List.length_cons, List.length_nil, bl_length]
  omega
theorem packL_snoc (l : List FileB) (f : FileB) : packL (l ++ [f]) = packL l ++ packOne f := by simp [packL]
theorem packL_take {l : List FileB} {k : Nat} (h : k < l.length) : packL (l.take (k + 1)) = packL (l.take k) ++ packOne l[k] := by
  rw [List.take_add_one, List.getElem?_eq_getElem h]; exact packL_snoc _ _
theorem packL_cons (f : FileB) (l : List FileB) : packL (f :: l) = packOne f ++ packL l := by simp [packL]
theorem packL_len : ∀ (l : List FileB), (∀ f ∈ l, f.path.size ≤ 30000 ∧ f.text.size ≤ 100000) → (packL l).length ≤ 132000 * l.length
  | [], _ => Nat.zero_le _
  | f :: l, h => by
    have h1 := packOne_len f (h f (List.mem_cons_self ..)).1 (h f (List.mem_cons_self ..)).2
    have h2 := packL_len l (fun g hg => h g (List.mem_cons_of_mem _ hg))
    rw [packL_cons, List.length_append, List.length_cons]
    omega
end Go.Proofs.YtgchgdkpipanjaaGreatDoor

namespace Go.Proofs.YtgchgdkpipanjaaGreatDoor
open Go Go.RowKit

/-- The environment of packs. -/
def KEnv (E : Nat → Addr) (w : World) : Prop := FEnv E w ∧ PowTab w
theorem KEnv.ext {E : Nat → Addr} {w w' : World} (h : KEnv E w) (hb : Below w.heap.size w w') : KEnv E w' := ⟨h.1.ext hb, h.2.ext hb⟩
/-- A tree's pack: empty, if the tree is not right. -/
def packT (l : List FileB) : List UInt8 := if (treeEr l).code = 0 then packL l else []
def PackPost (E : Nat → Addr) (l : List FileB) (w : World) (e : Ending) (w' : World) : Prop :=
  (∃ (t : ByteArray) (ev : Value), e = .returned (.tuple #[.string t, ev]) ∧ Hid (bl t = packT l) ∧ Hid (IsErr E w' ev (treeEr l))) ∧ Below w.heap.size w w'
theorem packT_len (l : List FileB) (h : ∀ f ∈ l, SmallF f) : (packT l).length ≤ 132000 * l.length := by
  unfold packT
  split
  · exact packL_len l h
  · exact Nat.zero_le _

theorem packs_bl (f : FileB) (t m : ByteArray) (r : Bool) (hr : f.run = r) (hm : bl m = [modeB r]) (ht : bl t = Lib.decDigits f.text.size) :
    bl (f.path ++ { data := #[32] } ++ m ++ { data := #[32] } ++ t ++ { data := #[10] } ++ f.text ++ { data := #[10] }) = packOne f := by
  simp only [bl_append, hm, ht, packOne, hr]
  rw [show bl { data := #[32] } = [32] from rfl, show bl { data := #[10] } = [10] from rfl]
  simp
theorem packs_len (acc : List UInt8) (f : FileB) (t m : ByteArray) (k : Nat) (hlen : acc.length ≤ 132000 * k) (hts : t.size ≤ 21) (hm : m.size = 1) (s1 : f.path.size ≤ 30000) (s2 : f.text.size ≤ 100000) (hk : k ≤ 10000) :
    (Lib.byteCells acc).length + (f.path ++ { data := #[32] } ++ m ++ { data := #[32] } ++ t ++ { data := #[10] } ++ f.text ++ { data := #[10] }).size ≤ 140737488355328 := by
  rw [Lib.byteCells_length, ← bl_length]
  simp only [bl_append, List.length_append, bl_length]
  have e1 : (bl { data := #[32] }).length = 1 := rfl
  have e2 : (bl { data := #[10] }).length = 1 := rfl
  rw [bl_length] at e1 e2
  omega

end Go.Proofs.YtgchgdkpipanjaaGreatDoor
