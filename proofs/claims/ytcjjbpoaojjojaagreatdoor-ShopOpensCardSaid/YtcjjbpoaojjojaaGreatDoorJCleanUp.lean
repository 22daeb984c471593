/- path.Clean: the walk. path.Join, path.In, path.Strip by their contracts. -/
import Derived.Test.YtcjjbpoaojjojaaGreatDoorJRanged
import Derived.BigRegionIn
import Derived.Test.YtcjjbpoaojjojaaGreatDoorJPathedEtc
namespace Go.Proofs.YtcjjbpoaojjojaaGreatDoor
open Go Go.RowKit Go.Shelf
attribute [local go_sem] Oper.semAt_some

theorem CleanPost.err {E : Nat → Addr} {s : ByteArray} {w w' : World} {k : Nat} (h : Hid (cleanE (bl s) = k + 1)) (hb : Below w.heap.size w w') : CleanPost E s w (.returned (.tuple #[.string ⟨#[]⟩, sentV E k])) w' :=
  ⟨⟨⟨#[]⟩, by rw [h.out]; rfl, by show _ = _; unfold cleanT; rw [h.out]; rfl⟩, hb⟩
theorem CleanPost.ok {E : Nat → Addr} {s x : ByteArray} {w w' : World} (h : Hid (cleanE (bl s) = 0)) (hx : Hid (bl x = [47].intercalate (cleanW [] (cutL 47 (bl s))).2)) (hb : Below w.heap.size w w') : CleanPost E s w (.returned (.tuple #[.string x, .nilIface])) w' :=
  ⟨⟨x, by rw [h.out]; rfl, by show _ = _; unfold cleanT; rw [h.out, if_pos rfl]; exact hx.out⟩, hb⟩

end Go.Proofs.YtcjjbpoaojjojaaGreatDoor

namespace Go.Proofs.YtcjjbpoaojjojaaGreatDoor
open Go Go.RowKit

/-- What path.Strip hands back. -/
def StripPost (E : Nat → Addr) (s : ByteArray) (n : Int) (w : World) (e : Ending) (w' : World) : Prop :=
  (∃ x : ByteArray, e = .returned (.tuple #[.string x, errV E (stripE (bl s) n)]) ∧ Hid (bl x = stripT (bl s) n)) ∧ Below w.heap.size w w'
theorem StripPost.err {E : Nat → Addr} {s : ByteArray} {n : Int} {w w' : World} {k : Nat} (h : Hid (stripE (bl s) n = k + 1)) (hb : Below w.heap.size w w') : StripPost E s n w (.returned (.tuple #[.string ⟨#[]⟩, sentV E k])) w' :=
  ⟨⟨⟨#[]⟩, by rw [h.out]; rfl, by show _ = _; unfold stripT; rw [h.out]; rfl⟩, hb⟩
structure SEnv (E : Nat → Addr) (w : World) : Prop where
  clean : CEnv E w
  bound : w.cell? ⟨0, 0, none⟩ = some (sentV E 1)
theorem SEnv.ext {E : Nat → Addr} {w w' : World} (h : SEnv E w) (hb : Below w.heap.size w w') : SEnv E w' :=
  ⟨h.clean.ext hb, by rw [hb.cell (p := ⟨0, 0, none⟩) (lt_of_cell h.bound)]; exact h.bound⟩

end Go.Proofs.YtcjjbpoaojjojaaGreatDoor
