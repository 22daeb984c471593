/-
  DERIVED. GIVEN WITH THE SEED: THE CARDS: each row of YtbaflplahaojbaaGreatDoorRows.lean that lists a variable, with what it lists TIED to the program's text (the seventh form; the later family's looks); each row that meets fmt, with fmt's text TOLD by the authors' own Lean function (tested against real Go, not proved from fmt's source: count such statements apart). THE CARD IS WHAT COUNTS. Prove the row's statement (the work); the ties are given (YtbaflplahaojbaaGreatDoorTie.lean); close each card by the builder's one call (the guide's Derived/Test/ToyasCard.lean, 'card_holds'). Laid BY PROGRAM, IN A SANDBOX (cutbox-door.mjs). By AI agents, Wed Nov 11 2026. No macro, syntax, notation, axiom, sorry.
-/
import Derived.Test.YtbaflplahaojbaaGreatDoorRows
import GoSem.ClaimSeven
namespace Go.Proofs.YtbaflplahaojbaaGreatDoor
namespace Rows

/-- THE TIED CARD OF 'chandlerylaw1.TreeGrafts'. -/
def treeGraftsCard : Claim7 := { stood := { row := treeGraftsRow, standIns := [], harness := (true, "020cf81c767fc84b23d1b0a6dc5c4f6c1882f3a307e673ec7fd992496c1f8015"), looks := true }, kinds := [], alts := [], laidByText := true, laidKinds := [.data, .handle, .sentinel, .sentinel, .sentinel, .sentinel, .sentinel, .sentinel, .sentinel, .sentinel, .sentinel, .sentinel, .sentinel, .sentinel, .sentinel, .pinned], laidTests := true, laidLooks := .later }
def TreeGraftsCardSaid : Prop := Claim7.holds Tryz.pinned (.plain (OpenSpec.ofChange treeGraftsSpec)) treeGraftsCard

/-- THE TIED CARD OF 'chandlerylaw1.TreeStrips'. -/
def treeStripsCard : Claim7 := { stood := { row := treeStripsRow, standIns := [], harness := (true, "020cf81c767fc84b23d1b0a6dc5c4f6c1882f3a307e673ec7fd992496c1f8015"), looks := true }, kinds := [], alts := [], laidByText := true, laidKinds := [.data, .handle, .sentinel, .sentinel, .sentinel, .sentinel, .sentinel, .sentinel, .sentinel, .sentinel, .sentinel, .sentinel, .sentinel, .sentinel, .sentinel, .pinned], laidTests := true, laidLooks := .later }
def TreeStripsCardSaid : Prop := Claim7.holds Tryz.pinned (.plain (OpenSpec.ofChange treeStripsSpec)) treeStripsCard

/-- THE TIED CARD OF 'chandlerylaw1.TreeTells'. -/
def treeTellsCard : Claim7 := { stood := { row := treeTellsRow, standIns := [], harness := (true, "020cf81c767fc84b23d1b0a6dc5c4f6c1882f3a307e673ec7fd992496c1f8015"), looks := true }, kinds := [], alts := [], laidByText := true, laidKinds := [.data, .handle, .sentinel, .sentinel, .sentinel, .sentinel, .sentinel, .sentinel, .sentinel, .sentinel, .sentinel, .sentinel, .sentinel, .sentinel, .sentinel, .pinned], laidTests := true, laidLooks := .later }
def TreeTellsCardSaid : Prop := Claim7.holds Tryz.pinned (.plain (OpenSpec.ofChange treeTellsSpec)) treeTellsCard

/-- THE SECOND FORM's CARD OF 'chandlerylaw1.TreeGrafts'. -/
def treeGraftsUptoCard : Claim7 := { stood := { row := treeGraftsUptoRow, standIns := [], harness := (true, "020cf81c767fc84b23d1b0a6dc5c4f6c1882f3a307e673ec7fd992496c1f8015"), looks := true }, kinds := [], alts := [], laidByText := true, laidKinds := [.data, .handle, .sentinel, .sentinel, .sentinel, .sentinel, .sentinel, .sentinel, .sentinel, .sentinel, .sentinel, .sentinel, .sentinel, .sentinel, .sentinel, .pinned], laidTests := true, laidLooks := .later }
def TreeGraftsUptoCardSaid : Prop := Claim7.holds Tryz.pinned (.plain (OpenSpec.upto treeGraftsSpec)) treeGraftsUptoCard

/-- THE SECOND FORM's CARD OF 'chandlerylaw1.TreeStrips'. -/
def treeStripsUptoCard : Claim7 := { stood := { row := treeStripsUptoRow, standIns := [], harness := (true, "020cf81c767fc84b23d1b0a6dc5c4f6c1882f3a307e673ec7fd992496c1f8015"), looks := true }, kinds := [], alts := [], laidByText := true, laidKinds := [.data, .handle, .sentinel, .sentinel, .sentinel, .sentinel, .sentinel, .sentinel, .sentinel, .sentinel, .sentinel, .sentinel, .sentinel, .sentinel, .sentinel, .pinned], laidTests := true, laidLooks := .later }
def TreeStripsUptoCardSaid : Prop := Claim7.holds Tryz.pinned (.plain (OpenSpec.upto treeStripsSpec)) treeStripsUptoCard

/-- THE SECOND FORM's CARD OF 'chandlerylaw1.TreeTells'. -/
def treeTellsUptoCard : Claim7 := { stood := { row := treeTellsUptoRow, standIns := [], harness := (true, "020cf81c767fc84b23d1b0a6dc5c4f6c1882f3a307e673ec7fd992496c1f8015"), looks := true }, kinds := [], alts := [], laidByText := true, laidKinds := [.data, .handle, .sentinel, .sentinel, .sentinel, .sentinel, .sentinel, .sentinel, .sentinel, .sentinel, .sentinel, .sentinel, .sentinel, .sentinel, .sentinel, .pinned], laidTests := true, laidLooks := .later }
def TreeTellsUptoCardSaid : Prop := Claim7.holds Tryz.pinned (.plain (OpenSpec.upto treeTellsSpec)) treeTellsUptoCard
end Rows
end Go.Proofs.YtbaflplahaojbaaGreatDoor
