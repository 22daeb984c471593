/- press.each by its contract: whatever it is to do at each run, as an invariant on the runs so far. press.Size by its contract. press.Open by its contract. chandleryref1.RunsOf by its contract. chandleryref1.SizeOf, Bare by their contracts. chandleryref1.OpenOf by its contract. -/
import Derived.Test.YtcjjbpoaojjojaaGreatDoorJPlainly
import Derived.Test.YtcjjbpoaojjojaaGreatDoorJParsed
import Derived.Test.YtcjjbpoaojjojaaGreatDoorJRowedEtc
import Derived.Test.YtcjjbpoaojjojaaGreatDoorJErrors
import Derived.IntWalk
import Derived.OneCell
import Derived.Shelf.Abstract
import Derived.Test.YtcjjbpoaojjojaaGreatDoorJShelf
import Derived.Deep.QuietTactic
import Derived.BigQuiet
import Derived.Deep.CutBlock
import Derived.Deep.DeepCutAuto
import Derived.Deep.RegionWith
namespace Go.Proofs.YtcjjbpoaojjojaaGreatDoor
open Go Go.RowKit

/-- What a call of each ends in. -/
def EachEnd (E : Nat → Addr) (I : List (Nat × UInt8) → World → Prop) (r : List (Nat × UInt8) × Option Nat) (e : Ending) (w' : World) : Prop :=
  match r.2 with
  | none => e = .returned .nilIface ∧ I r.1 w'
  | some p => ∃ W, I r.1 W ∧ e = .returned (.iface 95 (.pointer (some ⟨W.heap.size, 0, none⟩))) ∧ w' = W.alloc (.cells #[.int .i64 p, sentV E 0] 98)

theorem EachEnd.err {E : Nat → Addr} {I : List (Nat × UInt8) → World → Prop} {r : List (Nat × UInt8) × Option Nat} {acc : List (Nat × UInt8)} {p : Nat} {W : World} (h : r = (acc, some p)) (hI : I acc W) (q : Int) (hq : q = p) :
    EachEnd E I r (.returned (.iface 95 (.pointer (some ⟨W.heap.size, 0, none⟩)))) (W.alloc (.cells #[.int .i64 q, sentV E 0] 98)) := by
  subst h; subst hq; exact ⟨W, hI, rfl, rfl⟩
theorem EachEnd.ok {E : Nat → Addr} {I : List (Nat × UInt8) → World → Prop} {r : List (Nat × UInt8) × Option Nat} {acc : List (Nat × UInt8)} {W : World} (h : r = (acc, none)) (hI : I acc W) :
    EachEnd E I r (.returned .nilIface) W := by
  subst h; exact ⟨rfl, hI⟩

end Go.Proofs.YtcjjbpoaojjojaaGreatDoor

namespace Go.Proofs.YtcjjbpoaojjojaaGreatDoor
open Go Go.RowKit

end Go.Proofs.YtcjjbpoaojjojaaGreatDoor

namespace Go.Proofs.YtcjjbpoaojjojaaGreatDoor
open Go Go.RowKit

end Go.Proofs.YtcjjbpoaojjojaaGreatDoor

namespace Go.Proofs.YtcjjbpoaojjojaaGreatDoor
open Go Go.RowKit

abbrev encRun (r : Nat × UInt8) : List Value := [.int .i64 r.1, .int .u8 r.2.toNat]

/-- A fault of the references': its number, its place. -/
abbrev faultV (c a : Int) : Value := .agg #[.int .i64 c, .int .i64 a]

/-- What RunsOf tells: the runs (none where it is wrong), and a fault. -/
def rlist (r : List (Nat × UInt8) × Option Nat) : List (Nat × UInt8) := match r.2 with
  | none => r.1
  | some _ => []
def rcode (r : List (Nat × UInt8) × Option Nat) : Int := match r.2 with
  | none => 0
  | some _ => 1
def rat (r : List (Nat × UInt8) × Option Nat) : Int := match r.2 with
  | none => -1
  | some p => p
theorem r_some {r : List (Nat × UInt8) × Option Nat} {acc : List (Nat × UInt8)} {p : Nat} (h : r = (acc, some p)) : rlist r = [] ∧ rcode r = 1 ∧ rat r = p := by subst h; exact ⟨rfl, rfl, rfl⟩
def RunsEnd (w : World) (r : List (Nat × UInt8) × Option Nat) (e : Ending) (w' : World) : Prop :=
  ∃ v, e = .returned (.tuple #[v, faultV (rcode r) (rat r)]) ∧ Row encRun 2 w' v (rlist r) ∧ Below w.heap.size w w'
theorem RunsEnd.bad {w w' : World} {r : List (Nat × UInt8) × Option Nat} {acc : List (Nat × UInt8)} {p : Nat} (h : r = (acc, some p)) (q : Int) (hq : q = p) (hb : Below w.heap.size w w') :
    RunsEnd w r (.returned (.tuple #[.slice none 0 0, faultV 1 q])) w' := by
  obtain ⟨h1, h2, h3⟩ := r_some h
  exact ⟨_, by rw [h2, h3, hq], by rw [h1]; exact Row.nil _ _ _, hb⟩
end Go.Proofs.YtcjjbpoaojjojaaGreatDoor

namespace Go.Proofs.YtcjjbpoaojjojaaGreatDoor
open Go Go.RowKit

end Go.Proofs.YtcjjbpoaojjojaaGreatDoor

namespace Go.Proofs.YtcjjbpoaojjojaaGreatDoor
open Go Go.RowKit

end Go.Proofs.YtcjjbpoaojjojaaGreatDoor
