/- pack.one: the contract. pack.Read: the contract. -/
import Derived.Test.YtgchgdkpipanjaaGreatDoorKPackedUp
import Derived.Test.YtgchgdkpipanjaaGreatDoorKReadPlainly
import Derived.Test.YtgchgdkpipanjaaGreatDoorKSummed
import Derived.Test.YtgchgdkpipanjaaGreatDoorKRowed
import Derived.Test.YtgchgdkpipanjaaGreatDoorKFiles
namespace Go.Proofs.YtgchgdkpipanjaaGreatDoor
open Go Go.RowKit

/-- The environment of packs that are read. -/
def REnv (E : Nat → Addr) (w : World) : Prop := KEnv E w ∧ AtoiEnv w
theorem REnv.ext {E : Nat → Addr} {w w' : World} (h : REnv E w) (hb : Below w.heap.size w w') : REnv E w' := ⟨h.1.ext hb, h.2.ext hb⟩
def PTold (o : Option (FileB × List UInt8)) (f : FileB) (r : ByteArray) (ok : Bool) : Prop := (o = some (f, bl r) ∧ ok = true) ∨ (o = none ∧ ok = false)
def POnePost (s : ByteArray) (w : World) (e : Ending) (w' : World) : Prop :=
  (∃ (f : FileB) (r : ByteArray) (ok : Bool), e = .returned (.tuple #[.agg #[.string f.path, .bool f.run, .string f.text], .string r, .bool ok]) ∧ Hid (PTold (pieceL (bl s)) f r ok)) ∧ Below w.heap.size w w'
theorem POnePost.no {s : ByteArray} {w w' : World} (h : pieceL (bl s) = none) (hb : Below w.heap.size w w') : POnePost s w (.returned (.tuple #[.agg #[.string ⟨#[]⟩, .bool false, .string ⟨#[]⟩], .string ⟨#[]⟩, .bool false])) w' :=
  ⟨⟨⟨⟨#[]⟩, false, ⟨#[]⟩⟩, _, _, rfl, .inr ⟨h, rfl⟩⟩, hb⟩

end Go.Proofs.YtgchgdkpipanjaaGreatDoor

namespace Go.Proofs.YtgchgdkpipanjaaGreatDoor
open Go Go.RowKit

theorem FArg.nil (w : World) : FArg w (.slice none 0 0) [] := ⟨⟨none, 0, rfl, Nat.le_refl _, Nat.zero_le _, fun i hi => absurd hi (Nat.not_lt_zero _)⟩, fun n c e => by injection e with _ e1 e2; exact ⟨e1.symm, e2.symm⟩⟩

end Go.Proofs.YtgchgdkpipanjaaGreatDoor
