/- Packs, in plain Lean. pack.Make, pack.Sum: contracts. -/
import Derived.Test.YtgchgdkpipanjaaGreatDoorKTreed
import Derived.Test.YtgchgdkpipanjaaGreatDoorKPlainly
import Derived.Test.YtgchgdkpipanjaaGreatDoorKTexts
import Derived.Test.YtgchgdkpipanjaaGreatDoorKSummed
import Derived.Test.YtgchgdkpipanjaaGreatDoorKErrors
namespace Go.Proofs.YtgchgdkpipanjaaGreatDoor
open Go

def modeB (r : Bool) : UInt8 := if r then 120 else 102
/-- A file, as a pack has it. -/
def packOne (f : FileB) : List UInt8 := bl f.path ++ ([32, modeB f.run, 32] ++ (Lib.decDigits f.text.size ++ (10 :: (bl f.text ++ [10]))))
/-- Files, as a pack has them. -/
def packL (l : List FileB) : List UInt8 := l.flatMap packOne
theorem packL_snoc (l : List FileB) (f : FileB) : packL (l ++ [f]) = packL l ++ packOne f := by simp [packL]
theorem packL_cons (f : FileB) (l : List FileB) : packL (f :: l) = packOne f ++ packL l := by simp [packL]
end Go.Proofs.YtgchgdkpipanjaaGreatDoor

namespace Go.Proofs.YtgchgdkpipanjaaGreatDoor
open Go Go.RowKit

/-- The environment of packs. -/
def KEnv (E : Nat → Addr) (w : World) : Prop := FEnv E w ∧ PowTab w
theorem KEnv.ext {E : Nat → Addr} {w w' : World} (h : KEnv E w) (hb : Below w.heap.size w w') : KEnv E w' := ⟨h.1.ext hb, h.2.ext hb⟩
end Go.Proofs.YtgchgdkpipanjaaGreatDoor
