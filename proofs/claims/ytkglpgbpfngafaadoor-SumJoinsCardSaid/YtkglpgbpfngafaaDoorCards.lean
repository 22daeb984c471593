/-
  DERIVED. GIVEN WITH THE SEED: THE CARDS: each row of YtkglpgbpfngafaaDoorRows.lean that lists a variable, with what it lists TIED to the program's text (the seventh form; the later family's looks); each row that meets fmt, with fmt's text TOLD by the authors' own Lean function (tested against real Go, not proved from fmt's source: count such statements apart). THE CARD IS WHAT COUNTS. Prove the row's statement (the work); the ties are given (YtkglpgbpfngafaaDoorTie.lean); close each card by the builder's one call (the guide's Derived/Test/ToyasCard.lean, 'card_holds'). Laid BY PROGRAM, IN A SANDBOX (cutbox-door.mjs). By AI agents, Wed Nov 11 2026. No macro, syntax, notation, axiom, sorry.
-/
import Derived.Test.YtkglpgbpfngafaaDoorRows
import GoSem.ClaimSeven
namespace Go.Proofs.YtkglpgbpfngafaaDoor
namespace Rows

/-- THE TIED CARD OF 'chandlerylaw1.Names'. -/
def namesCard : Claim7 := { stood := { row := namesRow, standIns := [], harness := (true, "93b26ff5639783f1601af92e49c51fcb923e4501b2dea09b1b212537e942fe34"), looks := true }, kinds := [], alts := [], laidByText := true, laidKinds := [.handle, .sentinel, .sentinel, .sentinel, .sentinel, .sentinel, .sentinel, .sentinel, .sentinel, .sentinel, .sentinel, .sentinel, .sentinel, .sentinel], laidTests := true, laidLooks := .later }
def NamesCardSaid : Prop := Claim7.holds Tryd.pinned (.plain (OpenSpec.ofChange namesSpec)) namesCard

/-- THE TIED CARD OF 'chandlerylaw1.PressBack'. -/
def pressBackCard : Claim7 := { stood := { row := pressBackRow, standIns := [], harness := (true, "93b26ff5639783f1601af92e49c51fcb923e4501b2dea09b1b212537e942fe34"), looks := true }, kinds := [], alts := [], laidByText := true, laidKinds := [.data, .data, .data, .handle, .sentinel, .sentinel, .sentinel, .sentinel, .sentinel, .sentinel, .sentinel, .sentinel, .sentinel, .sentinel, .sentinel, .sentinel, .sentinel], laidTests := true, laidLooks := .later }
def PressBackCardSaid : Prop := Claim7.holds Tryd.pinned (.plain (OpenSpec.ofChange pressBackSpec)) pressBackCard

/-- THE TIED CARD OF 'chandlerylaw1.PressTells'. -/
def pressTellsCard : Claim7 := { stood := { row := pressTellsRow, standIns := [], harness := (true, "93b26ff5639783f1601af92e49c51fcb923e4501b2dea09b1b212537e942fe34"), looks := true }, kinds := [], alts := [], laidByText := true, laidKinds := [.data, .data, .data, .handle, .sentinel, .sentinel, .sentinel, .sentinel, .sentinel, .sentinel, .sentinel, .sentinel, .sentinel, .sentinel, .sentinel, .sentinel, .sentinel], laidTests := true, laidLooks := .later }
def PressTellsCardSaid : Prop := Claim7.holds Tryd.pinned (.plain (OpenSpec.ofChange pressTellsSpec)) pressTellsCard

/-- THE TIED CARD OF 'chandlerylaw1.SumJoins'. -/
def sumJoinsCard : Claim7 := { stood := { row := sumJoinsRow, standIns := [], harness := (true, "93b26ff5639783f1601af92e49c51fcb923e4501b2dea09b1b212537e942fe34"), looks := true }, kinds := [], alts := [], laidByText := true, laidKinds := [.data, .data, .data, .sentinel, .sentinel, .sentinel, .sentinel], laidTests := true, laidLooks := .later }
def SumJoinsCardSaid : Prop := Claim7.holds Tryd.pinned (.plain (OpenSpec.ofChange sumJoinsSpec)) sumJoinsCard

/-- THE TIED CARD OF 'chandlerylaw1.SumTells'. -/
def sumTellsCard : Claim7 := { stood := { row := sumTellsRow, standIns := [], harness := (true, "93b26ff5639783f1601af92e49c51fcb923e4501b2dea09b1b212537e942fe34"), looks := true }, kinds := [], alts := [], laidByText := true, laidKinds := [.data, .data, .data, .handle, .sentinel, .sentinel, .sentinel, .sentinel, .sentinel, .sentinel, .sentinel, .sentinel, .sentinel, .sentinel, .sentinel, .sentinel, .sentinel, .sentinel, .sentinel], laidTests := true, laidLooks := .later }
def SumTellsCardSaid : Prop := Claim7.holds Tryd.pinned (.plain (OpenSpec.ofChange sumTellsSpec)) sumTellsCard

/-- THE TIED CARD OF 'chandlerylaw1.PathStrips'. -/
def pathStripsCard : Claim7 := { stood := { row := pathStripsRow, standIns := [], harness := (true, "93b26ff5639783f1601af92e49c51fcb923e4501b2dea09b1b212537e942fe34"), looks := true }, kinds := [], alts := [], laidByText := true, laidKinds := [.data, .handle, .sentinel, .sentinel, .sentinel, .sentinel, .sentinel, .sentinel, .sentinel, .sentinel, .sentinel, .sentinel, .sentinel, .sentinel, .sentinel, .pinned], laidTests := true, laidLooks := .later }
def PathStripsCardSaid : Prop := Claim7.holds Tryd.pinned (.plain (OpenSpec.ofChange pathStripsSpec)) pathStripsCard

/-- THE TIED CARD OF 'chandlerylaw1.PathInside'. -/
def pathInsideCard : Claim7 := { stood := { row := pathInsideRow, standIns := [], harness := (true, "93b26ff5639783f1601af92e49c51fcb923e4501b2dea09b1b212537e942fe34"), looks := true }, kinds := [], alts := [], laidByText := true, laidKinds := [.data, .handle, .sentinel, .sentinel, .sentinel, .sentinel, .sentinel, .sentinel, .sentinel, .sentinel, .sentinel, .sentinel, .sentinel, .sentinel, .sentinel, .pinned], laidTests := true, laidLooks := .later }
def PathInsideCardSaid : Prop := Claim7.holds Tryd.pinned (.plain (OpenSpec.ofChange pathInsideSpec)) pathInsideCard

/-- THE TIED CARD OF 'chandlerylaw1.PathTells'. -/
def pathTellsCard : Claim7 := { stood := { row := pathTellsRow, standIns := [], harness := (true, "93b26ff5639783f1601af92e49c51fcb923e4501b2dea09b1b212537e942fe34"), looks := true }, kinds := [], alts := [], laidByText := true, laidKinds := [.data, .handle, .sentinel, .sentinel, .sentinel, .sentinel, .sentinel, .sentinel, .sentinel, .sentinel, .sentinel, .sentinel, .sentinel, .sentinel, .sentinel, .pinned], laidTests := true, laidLooks := .later }
def PathTellsCardSaid : Prop := Claim7.holds Tryd.pinned (.plain (OpenSpec.ofChange pathTellsSpec)) pathTellsCard

/-- THE SECOND FORM's CARD OF 'chandlerylaw1.Names'. -/
def namesUptoCard : Claim7 := { stood := { row := namesUptoRow, standIns := [], harness := (true, "93b26ff5639783f1601af92e49c51fcb923e4501b2dea09b1b212537e942fe34"), looks := true }, kinds := [], alts := [], laidByText := true, laidKinds := [.handle, .sentinel, .sentinel, .sentinel, .sentinel, .sentinel, .sentinel, .sentinel, .sentinel, .sentinel, .sentinel, .sentinel, .sentinel, .sentinel], laidTests := true, laidLooks := .later }
def NamesUptoCardSaid : Prop := Claim7.holds Tryd.pinned (.plain (OpenSpec.upto namesSpec)) namesUptoCard

/-- THE SECOND FORM's CARD OF 'chandlerylaw1.PressBack'. -/
def pressBackUptoCard : Claim7 := { stood := { row := pressBackUptoRow, standIns := [], harness := (true, "93b26ff5639783f1601af92e49c51fcb923e4501b2dea09b1b212537e942fe34"), looks := true }, kinds := [], alts := [], laidByText := true, laidKinds := [.data, .data, .data, .handle, .sentinel, .sentinel, .sentinel, .sentinel, .sentinel, .sentinel, .sentinel, .sentinel, .sentinel, .sentinel, .sentinel, .sentinel, .sentinel], laidTests := true, laidLooks := .later }
def PressBackUptoCardSaid : Prop := Claim7.holds Tryd.pinned (.plain (OpenSpec.upto pressBackSpec)) pressBackUptoCard

/-- THE SECOND FORM's CARD OF 'chandlerylaw1.PressTells'. -/
def pressTellsUptoCard : Claim7 := { stood := { row := pressTellsUptoRow, standIns := [], harness := (true, "93b26ff5639783f1601af92e49c51fcb923e4501b2dea09b1b212537e942fe34"), looks := true }, kinds := [], alts := [], laidByText := true, laidKinds := [.data, .data, .data, .handle, .sentinel, .sentinel, .sentinel, .sentinel, .sentinel, .sentinel, .sentinel, .sentinel, .sentinel, .sentinel, .sentinel, .sentinel, .sentinel], laidTests := true, laidLooks := .later }
def PressTellsUptoCardSaid : Prop := Claim7.holds Tryd.pinned (.plain (OpenSpec.upto pressTellsSpec)) pressTellsUptoCard

/-- THE SECOND FORM's CARD OF 'chandlerylaw1.SumJoins'. -/
def sumJoinsUptoCard : Claim7 := { stood := { row := sumJoinsUptoRow, standIns := [], harness := (true, "93b26ff5639783f1601af92e49c51fcb923e4501b2dea09b1b212537e942fe34"), looks := true }, kinds := [], alts := [], laidByText := true, laidKinds := [.data, .data, .data, .sentinel, .sentinel, .sentinel, .sentinel], laidTests := true, laidLooks := .later }
def SumJoinsUptoCardSaid : Prop := Claim7.holds Tryd.pinned (.plain (OpenSpec.upto sumJoinsSpec)) sumJoinsUptoCard

/-- THE SECOND FORM's CARD OF 'chandlerylaw1.SumTells'. -/
def sumTellsUptoCard : Claim7 := { stood := { row := sumTellsUptoRow, standIns := [], harness := (true, "93b26ff5639783f1601af92e49c51fcb923e4501b2dea09b1b212537e942fe34"), looks := true }, kinds := [], alts := [], laidByText := true, laidKinds := [.data, .data, .data, .handle, .sentinel, .sentinel, .sentinel, .sentinel, .sentinel, .sentinel, .sentinel, .sentinel, .sentinel, .sentinel, .sentinel, .sentinel, .sentinel, .sentinel, .sentinel], laidTests := true, laidLooks := .later }
def SumTellsUptoCardSaid : Prop := Claim7.holds Tryd.pinned (.plain (OpenSpec.upto sumTellsSpec)) sumTellsUptoCard

/-- THE SECOND FORM's CARD OF 'chandlerylaw1.PathStrips'. -/
def pathStripsUptoCard : Claim7 := { stood := { row := pathStripsUptoRow, standIns := [], harness := (true, "93b26ff5639783f1601af92e49c51fcb923e4501b2dea09b1b212537e942fe34"), looks := true }, kinds := [], alts := [], laidByText := true, laidKinds := [.data, .handle, .sentinel, .sentinel, .sentinel, .sentinel, .sentinel, .sentinel, .sentinel, .sentinel, .sentinel, .sentinel, .sentinel, .sentinel, .sentinel, .pinned], laidTests := true, laidLooks := .later }
def PathStripsUptoCardSaid : Prop := Claim7.holds Tryd.pinned (.plain (OpenSpec.upto pathStripsSpec)) pathStripsUptoCard

/-- THE SECOND FORM's CARD OF 'chandlerylaw1.PathInside'. -/
def pathInsideUptoCard : Claim7 := { stood := { row := pathInsideUptoRow, standIns := [], harness := (true, "93b26ff5639783f1601af92e49c51fcb923e4501b2dea09b1b212537e942fe34"), looks := true }, kinds := [], alts := [], laidByText := true, laidKinds := [.data, .handle, .sentinel, .sentinel, .sentinel, .sentinel, .sentinel, .sentinel, .sentinel, .sentinel, .sentinel, .sentinel, .sentinel, .sentinel, .sentinel, .pinned], laidTests := true, laidLooks := .later }
def PathInsideUptoCardSaid : Prop := Claim7.holds Tryd.pinned (.plain (OpenSpec.upto pathInsideSpec)) pathInsideUptoCard

/-- THE SECOND FORM's CARD OF 'chandlerylaw1.PathTells'. -/
def pathTellsUptoCard : Claim7 := { stood := { row := pathTellsUptoRow, standIns := [], harness := (true, "93b26ff5639783f1601af92e49c51fcb923e4501b2dea09b1b212537e942fe34"), looks := true }, kinds := [], alts := [], laidByText := true, laidKinds := [.data, .handle, .sentinel, .sentinel, .sentinel, .sentinel, .sentinel, .sentinel, .sentinel, .sentinel, .sentinel, .sentinel, .sentinel, .sentinel, .sentinel, .pinned], laidTests := true, laidLooks := .later }
def PathTellsUptoCardSaid : Prop := Claim7.holds Tryd.pinned (.plain (OpenSpec.upto pathTellsSpec)) pathTellsUptoCard
end Rows
end Go.Proofs.YtkglpgbpfngafaaDoor
