/-
  DERIVED. GIVEN WITH THE SEED: THE CARDS: each row of YtcjjbpoaojjojaaGreatDoorRows.lean that lists a variable, with what it lists TIED to the program's text (the seventh form; the later family's looks); each row that meets fmt, with fmt's text TOLD by the authors' own Lean function (tested against real Go, not proved from fmt's source: count such statements apart). THE CARD IS WHAT COUNTS. Prove the row's statement (the work); the ties are given (YtcjjbpoaojjojaaGreatDoorTie.lean); close each card by the builder's one call (the guide's Derived/Test/ToyasCard.lean, 'card_holds'). Laid BY PROGRAM, IN A SANDBOX (cutbox-door.mjs). By AI agents, Wed Nov 11 2026. No macro, syntax, notation, axiom, sorry.
-/
import Derived.Test.YtcjjbpoaojjojaaGreatDoorRows
import GoSem.ClaimSeven
namespace Go.Proofs.YtcjjbpoaojjojaaGreatDoor
namespace Rows

/-- THE TIED CARD OF 'chandlerylaw3.ShopOpens'. -/
def shopOpensCard : Claim7 := { stood := { row := shopOpensRow, standIns := [], harness := (true, "6b42fa2b2c6b26dbcec0a17fa14998dba3804283a79a31461af3b5cd30a415fc"), looks := true }, kinds := [], alts := [], laidByText := true, laidKinds := [.data, .data, .data, .data, .handle, .sentinel, .sentinel, .sentinel, .sentinel, .sentinel, .sentinel, .sentinel, .sentinel, .sentinel, .sentinel, .sentinel, .sentinel, .sentinel, .sentinel, .sentinel, .pinned], laidTests := true, laidLooks := .later }
def ShopOpensCardSaid : Prop := Claim7.holds Tryz.pinned (.plain (OpenSpec.ofChange shopOpensSpec)) shopOpensCard

/-- THE TIED CARD OF 'chandlerylaw3.ShopActs'. -/
def shopActsCard : Claim7 := { stood := { row := shopActsRow, standIns := [], harness := (true, "6b42fa2b2c6b26dbcec0a17fa14998dba3804283a79a31461af3b5cd30a415fc"), looks := true }, kinds := [], alts := [], laidByText := true, laidKinds := [.data, .data, .data, .data, .handle, .sentinel, .sentinel, .sentinel, .sentinel, .sentinel, .sentinel, .sentinel, .sentinel, .sentinel, .sentinel, .sentinel, .sentinel, .sentinel, .sentinel, .sentinel, .pinned], laidTests := true, laidLooks := .later }
def ShopActsCardSaid : Prop := Claim7.holds Tryz.pinned (.plain (OpenSpec.ofChange shopActsSpec)) shopActsCard

/-- THE TIED CARD OF 'chandlerylaw3.ShopKeeps'. -/
def shopKeepsCard : Claim7 := { stood := { row := shopKeepsRow, standIns := [], harness := (true, "6b42fa2b2c6b26dbcec0a17fa14998dba3804283a79a31461af3b5cd30a415fc"), looks := true }, kinds := [], alts := [], laidByText := true, laidKinds := [.data, .data, .data, .data, .handle, .sentinel, .sentinel, .sentinel, .sentinel, .sentinel, .sentinel, .sentinel, .sentinel, .sentinel, .sentinel, .sentinel, .sentinel, .sentinel, .sentinel, .sentinel, .pinned], laidTests := true, laidLooks := .later }
def ShopKeepsCardSaid : Prop := Claim7.holds Tryz.pinned (.plain (OpenSpec.ofChange shopKeepsSpec)) shopKeepsCard

/-- THE SECOND FORM's CARD OF 'chandlerylaw3.ShopOpens'. -/
def shopOpensUptoCard : Claim7 := { stood := { row := shopOpensUptoRow, standIns := [], harness := (true, "6b42fa2b2c6b26dbcec0a17fa14998dba3804283a79a31461af3b5cd30a415fc"), looks := true }, kinds := [], alts := [], laidByText := true, laidKinds := [.data, .data, .data, .data, .handle, .sentinel, .sentinel, .sentinel, .sentinel, .sentinel, .sentinel, .sentinel, .sentinel, .sentinel, .sentinel, .sentinel, .sentinel, .sentinel, .sentinel, .sentinel, .pinned], laidTests := true, laidLooks := .later }
def ShopOpensUptoCardSaid : Prop := Claim7.holds Tryz.pinned (.plain (OpenSpec.upto shopOpensSpec)) shopOpensUptoCard

/-- THE SECOND FORM's CARD OF 'chandlerylaw3.ShopActs'. -/
def shopActsUptoCard : Claim7 := { stood := { row := shopActsUptoRow, standIns := [], harness := (true, "6b42fa2b2c6b26dbcec0a17fa14998dba3804283a79a31461af3b5cd30a415fc"), looks := true }, kinds := [], alts := [], laidByText := true, laidKinds := [.data, .data, .data, .data, .handle, .sentinel, .sentinel, .sentinel, .sentinel, .sentinel, .sentinel, .sentinel, .sentinel, .sentinel, .sentinel, .sentinel, .sentinel, .sentinel, .sentinel, .sentinel, .pinned], laidTests := true, laidLooks := .later }
def ShopActsUptoCardSaid : Prop := Claim7.holds Tryz.pinned (.plain (OpenSpec.upto shopActsSpec)) shopActsUptoCard

/-- THE SECOND FORM's CARD OF 'chandlerylaw3.ShopKeeps'. -/
def shopKeepsUptoCard : Claim7 := { stood := { row := shopKeepsUptoRow, standIns := [], harness := (true, "6b42fa2b2c6b26dbcec0a17fa14998dba3804283a79a31461af3b5cd30a415fc"), looks := true }, kinds := [], alts := [], laidByText := true, laidKinds := [.data, .data, .data, .data, .handle, .sentinel, .sentinel, .sentinel, .sentinel, .sentinel, .sentinel, .sentinel, .sentinel, .sentinel, .sentinel, .sentinel, .sentinel, .sentinel, .sentinel, .sentinel, .pinned], laidTests := true, laidLooks := .later }
def ShopKeepsUptoCardSaid : Prop := Claim7.holds Tryz.pinned (.plain (OpenSpec.upto shopKeepsSpec)) shopKeepsUptoCard
end Rows
end Go.Proofs.YtcjjbpoaojjojaaGreatDoor
