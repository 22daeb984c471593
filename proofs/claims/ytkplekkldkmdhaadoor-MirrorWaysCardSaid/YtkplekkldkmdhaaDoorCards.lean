/-
  DERIVED. GIVEN WITH THE SEED: THE CARDS: each row of YtkplekkldkmdhaaDoorRows.lean that lists a variable, with what it lists TIED to the program's text (the seventh form; the later family's looks); each row that meets fmt, with fmt's text TOLD by the authors' own Lean function (tested against real Go, not proved from fmt's source: count such statements apart). THE CARD IS WHAT COUNTS. Prove the row's statement (the work); the ties are given (YtkplekkldkmdhaaDoorTie.lean); close each card by the builder's one call (the guide's Derived/Test/ToyasCard.lean, 'card_holds'). Laid BY PROGRAM, IN A SANDBOX (cutbox-door.mjs). By AI agents, Wed Nov 11 2026. No macro, syntax, notation, axiom, sorry.
-/
import Derived.Test.YtkplekkldkmdhaaDoorRows
import GoSem.ClaimSeven
namespace Go.Proofs.YtkplekkldkmdhaaDoor
namespace Rows

/-- THE TIED CARD OF 'chandlerylaw2.LinkSwaps'. -/
def linkSwapsCard : Claim7 := { stood := { row := linkSwapsRow, standIns := [], harness := (true, "35b7f39124e2a9c21af788155f24fe207d61a5ce09d999a7750cddcea45cc3af"), looks := true }, kinds := [], alts := [], laidByText := true, laidKinds := [.data, .sentinel, .sentinel, .sentinel, .sentinel, .sentinel, .pinned], laidTests := true, laidLooks := .later }
def LinkSwapsCardSaid : Prop := Claim7.holds Tryd.pinned (.plain (OpenSpec.ofChange linkSwapsSpec)) linkSwapsCard

/-- THE TIED CARD OF 'chandlerylaw2.MirrorWays'. -/
def mirrorWaysCard : Claim7 := { stood := { row := mirrorWaysRow, standIns := [], harness := (true, "35b7f39124e2a9c21af788155f24fe207d61a5ce09d999a7750cddcea45cc3af"), looks := true }, kinds := [], alts := [], laidByText := true, laidKinds := [.data, .sentinel, .sentinel, .sentinel, .sentinel, .sentinel, .pinned], laidTests := true, laidLooks := .later }
def MirrorWaysCardSaid : Prop := Claim7.holds Tryd.pinned (.plain (OpenSpec.ofChange mirrorWaysSpec)) mirrorWaysCard

/-- THE TIED CARD OF 'chandlerylaw1.SumTells'. -/
def sumTellsCard : Claim7 := { stood := { row := sumTellsRow, standIns := [], harness := (true, "35b7f39124e2a9c21af788155f24fe207d61a5ce09d999a7750cddcea45cc3af"), looks := true }, kinds := [], alts := [], laidByText := true, laidKinds := [.data, .data, .data, .handle, .sentinel, .sentinel, .sentinel, .sentinel, .sentinel, .sentinel, .sentinel, .sentinel, .sentinel, .sentinel, .sentinel, .sentinel, .sentinel, .sentinel, .sentinel], laidTests := true, laidLooks := .later }
def SumTellsCardSaid : Prop := Claim7.holds Tryd.pinned (.plain (OpenSpec.ofChange sumTellsSpec)) sumTellsCard

/-- THE TIED CARD OF 'chandlerylaw1.PathStrips'. -/
def pathStripsCard : Claim7 := { stood := { row := pathStripsRow, standIns := [], harness := (true, "35b7f39124e2a9c21af788155f24fe207d61a5ce09d999a7750cddcea45cc3af"), looks := true }, kinds := [], alts := [], laidByText := true, laidKinds := [.data, .handle, .sentinel, .sentinel, .sentinel, .sentinel, .sentinel, .sentinel, .sentinel, .sentinel, .sentinel, .sentinel, .sentinel, .sentinel, .sentinel, .pinned], laidTests := true, laidLooks := .later }
def PathStripsCardSaid : Prop := Claim7.holds Tryd.pinned (.plain (OpenSpec.ofChange pathStripsSpec)) pathStripsCard

/-- THE TIED CARD OF 'chandlerylaw1.PathInside'. -/
def pathInsideCard : Claim7 := { stood := { row := pathInsideRow, standIns := [], harness := (true, "35b7f39124e2a9c21af788155f24fe207d61a5ce09d999a7750cddcea45cc3af"), looks := true }, kinds := [], alts := [], laidByText := true, laidKinds := [.data, .handle, .sentinel, .sentinel, .sentinel, .sentinel, .sentinel, .sentinel, .sentinel, .sentinel, .sentinel, .sentinel, .sentinel, .sentinel, .sentinel, .pinned], laidTests := true, laidLooks := .later }
def PathInsideCardSaid : Prop := Claim7.holds Tryd.pinned (.plain (OpenSpec.ofChange pathInsideSpec)) pathInsideCard

/-- THE TIED CARD OF 'chandlerylaw1.PathTells'. -/
def pathTellsCard : Claim7 := { stood := { row := pathTellsRow, standIns := [], harness := (true, "35b7f39124e2a9c21af788155f24fe207d61a5ce09d999a7750cddcea45cc3af"), looks := true }, kinds := [], alts := [], laidByText := true, laidKinds := [.data, .handle, .sentinel, .sentinel, .sentinel, .sentinel, .sentinel, .sentinel, .sentinel, .sentinel, .sentinel, .sentinel, .sentinel, .sentinel, .sentinel, .pinned], laidTests := true, laidLooks := .later }
def PathTellsCardSaid : Prop := Claim7.holds Tryd.pinned (.plain (OpenSpec.ofChange pathTellsSpec)) pathTellsCard

/-- THE TIED CARD OF 'chandlerylaw2.LinkTells'. -/
def linkTellsCard : Claim7 := { stood := { row := linkTellsRow, standIns := [], harness := (true, "35b7f39124e2a9c21af788155f24fe207d61a5ce09d999a7750cddcea45cc3af"), looks := true }, kinds := [], alts := [], laidByText := true, laidKinds := [.data, .handle, .sentinel, .sentinel, .sentinel, .sentinel, .sentinel, .sentinel, .sentinel, .sentinel, .sentinel, .sentinel, .sentinel, .sentinel, .sentinel, .pinned], laidTests := true, laidLooks := .later }
def LinkTellsCardSaid : Prop := Claim7.holds Tryd.pinned (.plain (OpenSpec.ofChange linkTellsSpec)) linkTellsCard

/-- THE SECOND FORM's CARD OF 'chandlerylaw2.LinkSwaps'. -/
def linkSwapsUptoCard : Claim7 := { stood := { row := linkSwapsUptoRow, standIns := [], harness := (true, "35b7f39124e2a9c21af788155f24fe207d61a5ce09d999a7750cddcea45cc3af"), looks := true }, kinds := [], alts := [], laidByText := true, laidKinds := [.data, .sentinel, .sentinel, .sentinel, .sentinel, .sentinel, .pinned], laidTests := true, laidLooks := .later }
def LinkSwapsUptoCardSaid : Prop := Claim7.holds Tryd.pinned (.plain (OpenSpec.upto linkSwapsSpec)) linkSwapsUptoCard

/-- THE SECOND FORM's CARD OF 'chandlerylaw2.MirrorWays'. -/
def mirrorWaysUptoCard : Claim7 := { stood := { row := mirrorWaysUptoRow, standIns := [], harness := (true, "35b7f39124e2a9c21af788155f24fe207d61a5ce09d999a7750cddcea45cc3af"), looks := true }, kinds := [], alts := [], laidByText := true, laidKinds := [.data, .sentinel, .sentinel, .sentinel, .sentinel, .sentinel, .pinned], laidTests := true, laidLooks := .later }
def MirrorWaysUptoCardSaid : Prop := Claim7.holds Tryd.pinned (.plain (OpenSpec.upto mirrorWaysSpec)) mirrorWaysUptoCard

/-- THE SECOND FORM's CARD OF 'chandlerylaw1.SumTells'. -/
def sumTellsUptoCard : Claim7 := { stood := { row := sumTellsUptoRow, standIns := [], harness := (true, "35b7f39124e2a9c21af788155f24fe207d61a5ce09d999a7750cddcea45cc3af"), looks := true }, kinds := [], alts := [], laidByText := true, laidKinds := [.data, .data, .data, .handle, .sentinel, .sentinel, .sentinel, .sentinel, .sentinel, .sentinel, .sentinel, .sentinel, .sentinel, .sentinel, .sentinel, .sentinel, .sentinel, .sentinel, .sentinel], laidTests := true, laidLooks := .later }
def SumTellsUptoCardSaid : Prop := Claim7.holds Tryd.pinned (.plain (OpenSpec.upto sumTellsSpec)) sumTellsUptoCard

/-- THE SECOND FORM's CARD OF 'chandlerylaw1.PathStrips'. -/
def pathStripsUptoCard : Claim7 := { stood := { row := pathStripsUptoRow, standIns := [], harness := (true, "35b7f39124e2a9c21af788155f24fe207d61a5ce09d999a7750cddcea45cc3af"), looks := true }, kinds := [], alts := [], laidByText := true, laidKinds := [.data, .handle, .sentinel, .sentinel, .sentinel, .sentinel, .sentinel, .sentinel, .sentinel, .sentinel, .sentinel, .sentinel, .sentinel, .sentinel, .sentinel, .pinned], laidTests := true, laidLooks := .later }
def PathStripsUptoCardSaid : Prop := Claim7.holds Tryd.pinned (.plain (OpenSpec.upto pathStripsSpec)) pathStripsUptoCard

/-- THE SECOND FORM's CARD OF 'chandlerylaw1.PathInside'. -/
def pathInsideUptoCard : Claim7 := { stood := { row := pathInsideUptoRow, standIns := [], harness := (true, "35b7f39124e2a9c21af788155f24fe207d61a5ce09d999a7750cddcea45cc3af"), looks := true }, kinds := [], alts := [], laidByText := true, laidKinds := [.data, .handle, .sentinel, .sentinel, .sentinel, .sentinel, .sentinel, .sentinel, .sentinel, .sentinel, .sentinel, .sentinel, .sentinel, .sentinel, .sentinel, .pinned], laidTests := true, laidLooks := .later }
def PathInsideUptoCardSaid : Prop := Claim7.holds Tryd.pinned (.plain (OpenSpec.upto pathInsideSpec)) pathInsideUptoCard

/-- THE SECOND FORM's CARD OF 'chandlerylaw1.PathTells'. -/
def pathTellsUptoCard : Claim7 := { stood := { row := pathTellsUptoRow, standIns := [], harness := (true, "35b7f39124e2a9c21af788155f24fe207d61a5ce09d999a7750cddcea45cc3af"), looks := true }, kinds := [], alts := [], laidByText := true, laidKinds := [.data, .handle, .sentinel, .sentinel, .sentinel, .sentinel, .sentinel, .sentinel, .sentinel, .sentinel, .sentinel, .sentinel, .sentinel, .sentinel, .sentinel, .pinned], laidTests := true, laidLooks := .later }
def PathTellsUptoCardSaid : Prop := Claim7.holds Tryd.pinned (.plain (OpenSpec.upto pathTellsSpec)) pathTellsUptoCard

/-- THE SECOND FORM's CARD OF 'chandlerylaw2.LinkTells'. -/
def linkTellsUptoCard : Claim7 := { stood := { row := linkTellsUptoRow, standIns := [], harness := (true, "35b7f39124e2a9c21af788155f24fe207d61a5ce09d999a7750cddcea45cc3af"), looks := true }, kinds := [], alts := [], laidByText := true, laidKinds := [.data, .handle, .sentinel, .sentinel, .sentinel, .sentinel, .sentinel, .sentinel, .sentinel, .sentinel, .sentinel, .sentinel, .sentinel, .sentinel, .sentinel, .pinned], laidTests := true, laidLooks := .later }
def LinkTellsUptoCardSaid : Prop := Claim7.holds Tryd.pinned (.plain (OpenSpec.upto linkTellsSpec)) linkTellsUptoCard
end Rows
end Go.Proofs.YtkplekkldkmdhaaDoor
