/-
  DERIVED. GIVEN WITH THE SEED: THE CARDS: each row of YtjebljhhbnfpfaaGreatDoorRows.lean that lists a variable, with what it lists TIED to the program's text (the seventh form; the later family's looks); each row that meets fmt, with fmt's text TOLD by the authors' own Lean function (tested against real Go, not proved from fmt's source: count such statements apart). THE CARD IS WHAT COUNTS. Prove the row's statement (the work); the ties are given (YtjebljhhbnfpfaaGreatDoorTie.lean); close each card by the builder's one call (the guide's Derived/Test/ToyasCard.lean, 'card_holds'). Laid BY PROGRAM, IN A SANDBOX (cutbox-door.mjs). By AI agents, Wed Nov 11 2026. No macro, syntax, notation, axiom, sorry.
-/
import Derived.Test.YtjebljhhbnfpfaaGreatDoorRows
import GoSem.ClaimSeven
namespace Go.Proofs.YtjebljhhbnfpfaaGreatDoor
namespace Rows

/-- THE TIED CARD OF 'chandlerylaw2.HeldDrops'. -/
def heldDropsCard : Claim7 := { stood := { row := heldDropsRow, standIns := [], harness := (true, "6d62cc3b7cbafaacecf2fe1f0ac8338cc3415c13fd5ad90dab13e4a5718006ba"), looks := true }, kinds := [], alts := [], laidByText := true, laidKinds := [.data, .data, .data, .data, .handle, .sentinel, .sentinel, .sentinel, .sentinel, .sentinel, .sentinel, .sentinel, .sentinel, .sentinel, .sentinel, .sentinel, .sentinel, .sentinel, .pinned], laidTests := true, laidLooks := .later }
def HeldDropsCardSaid : Prop := Claim7.holds Tryz.pinned (.plain (OpenSpec.ofChange heldDropsSpec)) heldDropsCard

/-- THE TIED CARD OF 'chandlerylaw2.HeldSums'. -/
def heldSumsCard : Claim7 := { stood := { row := heldSumsRow, standIns := [], harness := (true, "6d62cc3b7cbafaacecf2fe1f0ac8338cc3415c13fd5ad90dab13e4a5718006ba"), looks := true }, kinds := [], alts := [], laidByText := true, laidKinds := [.data, .data, .data, .data, .handle, .sentinel, .sentinel, .sentinel, .sentinel, .sentinel, .sentinel, .sentinel, .sentinel, .sentinel, .sentinel, .sentinel, .sentinel, .sentinel, .pinned], laidTests := true, laidLooks := .later }
def HeldSumsCardSaid : Prop := Claim7.holds Tryz.pinned (.plain (OpenSpec.ofChange heldSumsSpec)) heldSumsCard

/-- THE TIED CARD OF 'chandlerylaw2.HeldActs'. -/
def heldActsCard : Claim7 := { stood := { row := heldActsRow, standIns := [], harness := (true, "6d62cc3b7cbafaacecf2fe1f0ac8338cc3415c13fd5ad90dab13e4a5718006ba"), looks := true }, kinds := [], alts := [], laidByText := true, laidKinds := [.data, .data, .data, .data, .handle, .sentinel, .sentinel, .sentinel, .sentinel, .sentinel, .sentinel, .sentinel, .sentinel, .sentinel, .sentinel, .sentinel, .sentinel, .sentinel, .pinned], laidTests := true, laidLooks := .later }
def HeldActsCardSaid : Prop := Claim7.holds Tryz.pinned (.plain (OpenSpec.ofChange heldActsSpec)) heldActsCard

/-- THE TIED CARD OF 'chandlerylaw1.PackTells'. -/
def packTellsCard : Claim7 := { stood := { row := packTellsRow, standIns := [], harness := (true, "6d62cc3b7cbafaacecf2fe1f0ac8338cc3415c13fd5ad90dab13e4a5718006ba"), looks := true }, kinds := [], alts := [], laidByText := true, laidKinds := [.data, .data, .data, .data, .handle, .sentinel, .sentinel, .sentinel, .sentinel, .sentinel, .sentinel, .sentinel, .sentinel, .sentinel, .sentinel, .sentinel, .sentinel, .sentinel, .sentinel, .sentinel, .pinned], laidTests := true, laidLooks := .later }
def PackTellsCardSaid : Prop := Claim7.holds Tryz.pinned (.plain (OpenSpec.ofChange packTellsSpec)) packTellsCard

/-- THE SECOND FORM's CARD OF 'chandlerylaw2.HeldDrops'. -/
def heldDropsUptoCard : Claim7 := { stood := { row := heldDropsUptoRow, standIns := [], harness := (true, "6d62cc3b7cbafaacecf2fe1f0ac8338cc3415c13fd5ad90dab13e4a5718006ba"), looks := true }, kinds := [], alts := [], laidByText := true, laidKinds := [.data, .data, .data, .data, .handle, .sentinel, .sentinel, .sentinel, .sentinel, .sentinel, .sentinel, .sentinel, .sentinel, .sentinel, .sentinel, .sentinel, .sentinel, .sentinel, .pinned], laidTests := true, laidLooks := .later }
def HeldDropsUptoCardSaid : Prop := Claim7.holds Tryz.pinned (.plain (OpenSpec.upto heldDropsSpec)) heldDropsUptoCard

/-- THE SECOND FORM's CARD OF 'chandlerylaw2.HeldSums'. -/
def heldSumsUptoCard : Claim7 := { stood := { row := heldSumsUptoRow, standIns := [], harness := (true, "6d62cc3b7cbafaacecf2fe1f0ac8338cc3415c13fd5ad90dab13e4a5718006ba"), looks := true }, kinds := [], alts := [], laidByText := true, laidKinds := [.data, .data, .data, .data, .handle, .sentinel, .sentinel, .sentinel, .sentinel, .sentinel, .sentinel, .sentinel, .sentinel, .sentinel, .sentinel, .sentinel, .sentinel, .sentinel, .pinned], laidTests := true, laidLooks := .later }
def HeldSumsUptoCardSaid : Prop := Claim7.holds Tryz.pinned (.plain (OpenSpec.upto heldSumsSpec)) heldSumsUptoCard

/-- THE SECOND FORM's CARD OF 'chandlerylaw2.HeldActs'. -/
def heldActsUptoCard : Claim7 := { stood := { row := heldActsUptoRow, standIns := [], harness := (true, "6d62cc3b7cbafaacecf2fe1f0ac8338cc3415c13fd5ad90dab13e4a5718006ba"), looks := true }, kinds := [], alts := [], laidByText := true, laidKinds := [.data, .data, .data, .data, .handle, .sentinel, .sentinel, .sentinel, .sentinel, .sentinel, .sentinel, .sentinel, .sentinel, .sentinel, .sentinel, .sentinel, .sentinel, .sentinel, .pinned], laidTests := true, laidLooks := .later }
def HeldActsUptoCardSaid : Prop := Claim7.holds Tryz.pinned (.plain (OpenSpec.upto heldActsSpec)) heldActsUptoCard

/-- THE SECOND FORM's CARD OF 'chandlerylaw1.PackTells'. -/
def packTellsUptoCard : Claim7 := { stood := { row := packTellsUptoRow, standIns := [], harness := (true, "6d62cc3b7cbafaacecf2fe1f0ac8338cc3415c13fd5ad90dab13e4a5718006ba"), looks := true }, kinds := [], alts := [], laidByText := true, laidKinds := [.data, .data, .data, .data, .handle, .sentinel, .sentinel, .sentinel, .sentinel, .sentinel, .sentinel, .sentinel, .sentinel, .sentinel, .sentinel, .sentinel, .sentinel, .sentinel, .sentinel, .sentinel, .pinned], laidTests := true, laidLooks := .later }
def PackTellsUptoCardSaid : Prop := Claim7.holds Tryz.pinned (.plain (OpenSpec.upto packTellsSpec)) packTellsUptoCard
end Rows
end Go.Proofs.YtjebljhhbnfpfaaGreatDoor
