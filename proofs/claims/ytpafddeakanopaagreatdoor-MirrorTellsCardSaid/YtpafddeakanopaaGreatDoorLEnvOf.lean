/- The environment of links, of the thirteen and the library's bound. -/
import Derived.Test.YtpafddeakanopaaGreatDoorLink
namespace Go.Proofs.YtpafddeakanopaaGreatDoor
open Go Go.RowKit
theorem lenv_from {E : Nat → Addr} {w : World} (hE : Env E w) (hm : ∃ m, w.cell? ⟨14, 0, none⟩ = some (.int .i64 m)) : LEnv E w :=
  ⟨⟨hE.eName, hE.eFull, hm⟩, hE.eText, hE.eKind, hE.eNone⟩
end Go.Proofs.YtpafddeakanopaaGreatDoor
