/-
  DERIVED. GIVEN WITH THE SEED: THE CARDS: each row of YtpafddeakanopaaDoorRows.lean that lists a variable, with what it lists TIED to the program's text (the seventh form; the later family's looks); each row that meets fmt, with fmt's text TOLD by the authors' own Lean function (tested against real Go, not proved from fmt's source: count such statements apart). THE CARD IS WHAT COUNTS. Prove the row's statement (the work); the ties are given (YtpafddeakanopaaDoorTie.lean); close each card by the builder's one call (the guide's Derived/Test/ToyasCard.lean, 'card_holds'). Laid BY PROGRAM, IN A SANDBOX (cutbox-door.mjs). By AI agents, Wed Nov 11 2026. No macro, syntax, notation, axiom, sorry.
-/
import Derived.Test.YtpafddeakanopaaDoorRows
import GoSem.ClaimSeven
namespace Go.Proofs.YtpafddeakanopaaDoor
namespace Rows

/-- THE TIED CARD OF 'chandlerylaw2.MirrorWays'. -/
def mirrorWaysCard : Claim7 := { stood := { row := mirrorWaysRow, standIns := [], harness := (true, "6260c5b9efc720c4da0d148d7d50762641b02f76a2b4e83c509bff430c967c93"), looks := true }, kinds := [], alts := [], laidByText := true, laidKinds := [.data, .sentinel, .sentinel, .sentinel, .sentinel, .sentinel, .pinned], laidTests := true, laidLooks := .later }
def MirrorWaysCardSaid : Prop := Claim7.holds Tryd.pinned (.plain (OpenSpec.ofChange mirrorWaysSpec)) mirrorWaysCard

/-- THE TIED CARD OF 'chandlerylaw3.TapeCuts'. -/
def tapeCutsCard : Claim7 := { stood := { row := tapeCutsRow, standIns := [], harness := (true, "6260c5b9efc720c4da0d148d7d50762641b02f76a2b4e83c509bff430c967c93"), looks := true }, kinds := [], alts := [], laidByText := true, laidKinds := [.data, .data, .data, .sentinel, .sentinel, .sentinel, .sentinel, .sentinel, .sentinel], laidTests := true, laidLooks := .later }
def TapeCutsCardSaid : Prop := Claim7.holds Tryd.pinned (.plain (OpenSpec.ofChange tapeCutsSpec)) tapeCutsCard

/-- THE TIED CARD OF 'chandlerylaw3.TapeActs'. -/
def tapeActsCard : Claim7 := { stood := { row := tapeActsRow, standIns := [], harness := (true, "6260c5b9efc720c4da0d148d7d50762641b02f76a2b4e83c509bff430c967c93"), looks := true }, kinds := [], alts := [], laidByText := true, laidKinds := [.data, .data, .data, .handle, .sentinel, .sentinel, .sentinel, .sentinel, .sentinel, .sentinel, .sentinel, .sentinel, .sentinel, .sentinel, .sentinel, .sentinel, .sentinel, .sentinel, .sentinel], laidTests := true, laidLooks := .later }
def TapeActsCardSaid : Prop := Claim7.holds Tryd.pinned (.plain (OpenSpec.ofChange tapeActsSpec)) tapeActsCard

/-- THE TIED CARD OF 'chandlerylaw2.NetBegins'. -/
def netBeginsCard : Claim7 := { stood := { row := netBeginsRow, standIns := [], harness := (true, "6260c5b9efc720c4da0d148d7d50762641b02f76a2b4e83c509bff430c967c93"), looks := true }, kinds := [], alts := [], laidByText := true, laidKinds := [.data, .handle, .sentinel, .sentinel, .sentinel, .sentinel, .sentinel, .sentinel, .sentinel, .sentinel, .sentinel, .sentinel, .sentinel, .sentinel, .sentinel, .pinned], laidTests := true, laidLooks := .later }
def NetBeginsCardSaid : Prop := Claim7.holds Tryd.pinned (.plain (OpenSpec.ofChange netBeginsSpec)) netBeginsCard

/-- THE TIED CARD OF 'chandlerylaw2.NetActs'. -/
def netActsCard : Claim7 := { stood := { row := netActsRow, standIns := [], harness := (true, "6260c5b9efc720c4da0d148d7d50762641b02f76a2b4e83c509bff430c967c93"), looks := true }, kinds := [], alts := [], laidByText := true, laidKinds := [.data, .handle, .sentinel, .sentinel, .sentinel, .sentinel, .sentinel, .sentinel, .sentinel, .sentinel, .sentinel, .sentinel, .sentinel, .sentinel, .sentinel, .pinned], laidTests := true, laidLooks := .later }
def NetActsCardSaid : Prop := Claim7.holds Tryd.pinned (.plain (OpenSpec.ofChange netActsSpec)) netActsCard

/-- THE SECOND FORM's CARD OF 'chandlerylaw2.MirrorWays'. -/
def mirrorWaysUptoCard : Claim7 := { stood := { row := mirrorWaysUptoRow, standIns := [], harness := (true, "6260c5b9efc720c4da0d148d7d50762641b02f76a2b4e83c509bff430c967c93"), looks := true }, kinds := [], alts := [], laidByText := true, laidKinds := [.data, .sentinel, .sentinel, .sentinel, .sentinel, .sentinel, .pinned], laidTests := true, laidLooks := .later }
def MirrorWaysUptoCardSaid : Prop := Claim7.holds Tryd.pinned (.plain (OpenSpec.upto mirrorWaysSpec)) mirrorWaysUptoCard

/-- THE SECOND FORM's CARD OF 'chandlerylaw3.TapeCuts'. -/
def tapeCutsUptoCard : Claim7 := { stood := { row := tapeCutsUptoRow, standIns := [], harness := (true, "6260c5b9efc720c4da0d148d7d50762641b02f76a2b4e83c509bff430c967c93"), looks := true }, kinds := [], alts := [], laidByText := true, laidKinds := [.data, .data, .data, .sentinel, .sentinel, .sentinel, .sentinel, .sentinel, .sentinel], laidTests := true, laidLooks := .later }
def TapeCutsUptoCardSaid : Prop := Claim7.holds Tryd.pinned (.plain (OpenSpec.upto tapeCutsSpec)) tapeCutsUptoCard

/-- THE SECOND FORM's CARD OF 'chandlerylaw3.TapeActs'. -/
def tapeActsUptoCard : Claim7 := { stood := { row := tapeActsUptoRow, standIns := [], harness := (true, "6260c5b9efc720c4da0d148d7d50762641b02f76a2b4e83c509bff430c967c93"), looks := true }, kinds := [], alts := [], laidByText := true, laidKinds := [.data, .data, .data, .handle, .sentinel, .sentinel, .sentinel, .sentinel, .sentinel, .sentinel, .sentinel, .sentinel, .sentinel, .sentinel, .sentinel, .sentinel, .sentinel, .sentinel, .sentinel], laidTests := true, laidLooks := .later }
def TapeActsUptoCardSaid : Prop := Claim7.holds Tryd.pinned (.plain (OpenSpec.upto tapeActsSpec)) tapeActsUptoCard

/-- THE SECOND FORM's CARD OF 'chandlerylaw2.NetBegins'. -/
def netBeginsUptoCard : Claim7 := { stood := { row := netBeginsUptoRow, standIns := [], harness := (true, "6260c5b9efc720c4da0d148d7d50762641b02f76a2b4e83c509bff430c967c93"), looks := true }, kinds := [], alts := [], laidByText := true, laidKinds := [.data, .handle, .sentinel, .sentinel, .sentinel, .sentinel, .sentinel, .sentinel, .sentinel, .sentinel, .sentinel, .sentinel, .sentinel, .sentinel, .sentinel, .pinned], laidTests := true, laidLooks := .later }
def NetBeginsUptoCardSaid : Prop := Claim7.holds Tryd.pinned (.plain (OpenSpec.upto netBeginsSpec)) netBeginsUptoCard

/-- THE SECOND FORM's CARD OF 'chandlerylaw2.NetActs'. -/
def netActsUptoCard : Claim7 := { stood := { row := netActsUptoRow, standIns := [], harness := (true, "6260c5b9efc720c4da0d148d7d50762641b02f76a2b4e83c509bff430c967c93"), looks := true }, kinds := [], alts := [], laidByText := true, laidKinds := [.data, .handle, .sentinel, .sentinel, .sentinel, .sentinel, .sentinel, .sentinel, .sentinel, .sentinel, .sentinel, .sentinel, .sentinel, .sentinel, .sentinel, .pinned], laidTests := true, laidLooks := .later }
def NetActsUptoCardSaid : Prop := Claim7.holds Tryd.pinned (.plain (OpenSpec.upto netActsSpec)) netActsUptoCard
end Rows
end Go.Proofs.YtpafddeakanopaaDoor
