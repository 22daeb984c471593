/-
  DERIVED. GIVEN WITH THE SEED: THE CARDS: each row of YtomceddfbfpjjaaGreatDoorRows.lean that lists a variable, with what it lists TIED to the program's text (the seventh form; the later family's looks); each row that meets fmt, with fmt's text TOLD by the authors' own Lean function (tested against real Go, not proved from fmt's source: count such statements apart). THE CARD IS WHAT COUNTS. Prove the row's statement (the work); the ties are given (YtomceddfbfpjjaaGreatDoorTie.lean); close each card by the builder's one call (the guide's Derived/Test/ToyasCard.lean, 'card_holds'). Laid BY PROGRAM, IN A SANDBOX (cutbox-door.mjs). By AI agents, Wed Nov 11 2026. No macro, syntax, notation, axiom, sorry.
-/
import Derived.Test.YtomceddfbfpjjaaGreatDoorRows
import GoSem.ClaimSeven
namespace Go.Proofs.YtomceddfbfpjjaaGreatDoor
namespace Rows

/-- THE TIED CARD OF 'chandlerylaw3.FetchTells'. -/
def fetchTellsCard : Claim7 := { stood := { row := fetchTellsRow, standIns := [], harness := (true, "56d3e2fc07e6ccca822dd9d2f8abc657598a7ef7c5e3f34a33df7017034efc77"), looks := true }, kinds := [], alts := [], laidByText := true, laidKinds := [.data, .data, .data, .data, .handle, .sentinel, .sentinel, .sentinel, .sentinel, .sentinel, .sentinel, .sentinel, .sentinel, .sentinel, .sentinel, .sentinel, .sentinel, .sentinel, .sentinel, .sentinel, .pinned], laidTests := true, laidLooks := .later }
def FetchTellsCardSaid : Prop := Claim7.holds Tryz.pinned (.plain (OpenSpec.ofChange fetchTellsSpec)) fetchTellsCard

/-- THE TIED CARD OF 'chandlerylaw3.FetchRight'. -/
def fetchRightCard : Claim7 := { stood := { row := fetchRightRow, standIns := [], harness := (true, "56d3e2fc07e6ccca822dd9d2f8abc657598a7ef7c5e3f34a33df7017034efc77"), looks := true }, kinds := [], alts := [], laidByText := true, laidKinds := [.data, .data, .data, .data, .handle, .sentinel, .sentinel, .sentinel, .sentinel, .sentinel, .sentinel, .sentinel, .sentinel, .sentinel, .sentinel, .sentinel, .sentinel, .sentinel, .sentinel, .sentinel, .pinned], laidTests := true, laidLooks := .later }
def FetchRightCardSaid : Prop := Claim7.holds Tryz.pinned (.plain (OpenSpec.ofChange fetchRightSpec)) fetchRightCard

/-- THE SECOND FORM's CARD OF 'chandlerylaw3.FetchTells'. -/
def fetchTellsUptoCard : Claim7 := { stood := { row := fetchTellsUptoRow, standIns := [], harness := (true, "56d3e2fc07e6ccca822dd9d2f8abc657598a7ef7c5e3f34a33df7017034efc77"), looks := true }, kinds := [], alts := [], laidByText := true, laidKinds := [.data, .data, .data, .data, .handle, .sentinel, .sentinel, .sentinel, .sentinel, .sentinel, .sentinel, .sentinel, .sentinel, .sentinel, .sentinel, .sentinel, .sentinel, .sentinel, .sentinel, .sentinel, .pinned], laidTests := true, laidLooks := .later }
def FetchTellsUptoCardSaid : Prop := Claim7.holds Tryz.pinned (.plain (OpenSpec.upto fetchTellsSpec)) fetchTellsUptoCard

/-- THE SECOND FORM's CARD OF 'chandlerylaw3.FetchRight'. -/
def fetchRightUptoCard : Claim7 := { stood := { row := fetchRightUptoRow, standIns := [], harness := (true, "56d3e2fc07e6ccca822dd9d2f8abc657598a7ef7c5e3f34a33df7017034efc77"), looks := true }, kinds := [], alts := [], laidByText := true, laidKinds := [.data, .data, .data, .data, .handle, .sentinel, .sentinel, .sentinel, .sentinel, .sentinel, .sentinel, .sentinel, .sentinel, .sentinel, .sentinel, .sentinel, .sentinel, .sentinel, .sentinel, .sentinel, .pinned], laidTests := true, laidLooks := .later }
def FetchRightUptoCardSaid : Prop := Claim7.holds Tryz.pinned (.plain (OpenSpec.upto fetchRightSpec)) fetchRightUptoCard
end Rows
end Go.Proofs.YtomceddfbfpjjaaGreatDoor
