/-
  DERIVED. GIVEN WITH THE SEED: THE CARDS: each row of YtgchgdkpipanjaaGreatDoorRows.lean that lists a variable, with what it lists TIED to the program's text (the seventh form; the later family's looks); each row that meets fmt, with fmt's text TOLD by the authors' own Lean function (tested against real Go, not proved from fmt's source: count such statements apart). THE CARD IS WHAT COUNTS. Prove the row's statement (the work); the ties are given (YtgchgdkpipanjaaGreatDoorTie.lean); close each card by the builder's one call (the guide's Derived/Test/ToyasCard.lean, 'card_holds'). Laid BY PROGRAM, IN A SANDBOX (cutbox-door.mjs). By AI agents, Wed Nov 11 2026. No macro, syntax, notation, axiom, sorry.
-/
import Derived.Test.YtgchgdkpipanjaaGreatDoorRows
import GoSem.ClaimSeven
namespace Go.Proofs.YtgchgdkpipanjaaGreatDoor
namespace Rows

/-- THE TIED CARD OF 'chandlerylaw3.LockDiffs'. -/
def lockDiffsCard : Claim7 := { stood := { row := lockDiffsRow, standIns := [], harness := (true, "7687e7fe6172671310b8fb70f35cc37992a30e8ac4b75f0dde831b1291ef1dfe"), looks := true }, kinds := [], alts := [], laidByText := true, laidKinds := [.data, .data, .data, .data, .sentinel, .sentinel, .sentinel, .sentinel, .sentinel, .sentinel, .sentinel, .sentinel, .sentinel, .sentinel, .pinned], laidTests := true, laidLooks := .later }
def LockDiffsCardSaid : Prop := Claim7.holds Tryz.pinned (.plain (OpenSpec.ofChange lockDiffsSpec)) lockDiffsCard

/-- THE TIED CARD OF 'chandlerylaw3.LockLoads'. -/
def lockLoadsCard : Claim7 := { stood := { row := lockLoadsRow, standIns := [], harness := (true, "7687e7fe6172671310b8fb70f35cc37992a30e8ac4b75f0dde831b1291ef1dfe"), looks := true }, kinds := [], alts := [], laidByText := true, laidKinds := [.data, .data, .data, .data, .sentinel, .sentinel, .sentinel, .sentinel, .sentinel, .sentinel, .sentinel, .sentinel, .sentinel, .sentinel, .sentinel, .sentinel, .sentinel, .sentinel, .pinned], laidTests := true, laidLooks := .later }
def LockLoadsCardSaid : Prop := Claim7.holds Tryz.pinned (.plain (OpenSpec.ofChange lockLoadsSpec)) lockLoadsCard

/-- THE TIED CARD OF 'chandlerylaw3.LockTells'. -/
def lockTellsCard : Claim7 := { stood := { row := lockTellsRow, standIns := [], harness := (true, "7687e7fe6172671310b8fb70f35cc37992a30e8ac4b75f0dde831b1291ef1dfe"), looks := true }, kinds := [], alts := [], laidByText := true, laidKinds := [.data, .data, .data, .data, .handle, .sentinel, .sentinel, .sentinel, .sentinel, .sentinel, .sentinel, .sentinel, .sentinel, .sentinel, .sentinel, .sentinel, .sentinel, .sentinel, .sentinel, .sentinel, .pinned], laidTests := true, laidLooks := .later }
def LockTellsCardSaid : Prop := Claim7.holds Tryz.pinned (.plain (OpenSpec.ofChange lockTellsSpec)) lockTellsCard

/-- THE TIED CARD OF 'chandlerylaw3.LockBundles'. -/
def lockBundlesCard : Claim7 := { stood := { row := lockBundlesRow, standIns := [], harness := (true, "7687e7fe6172671310b8fb70f35cc37992a30e8ac4b75f0dde831b1291ef1dfe"), looks := true }, kinds := [], alts := [], laidByText := true, laidKinds := [.data, .data, .data, .data, .handle, .sentinel, .sentinel, .sentinel, .sentinel, .sentinel, .sentinel, .sentinel, .sentinel, .sentinel, .sentinel, .sentinel, .sentinel, .sentinel, .sentinel, .sentinel, .pinned], laidTests := true, laidLooks := .later }
def LockBundlesCardSaid : Prop := Claim7.holds Tryz.pinned (.plain (OpenSpec.ofChange lockBundlesSpec)) lockBundlesCard

/-- THE SECOND FORM's CARD OF 'chandlerylaw3.LockDiffs'. -/
def lockDiffsUptoCard : Claim7 := { stood := { row := lockDiffsUptoRow, standIns := [], harness := (true, "7687e7fe6172671310b8fb70f35cc37992a30e8ac4b75f0dde831b1291ef1dfe"), looks := true }, kinds := [], alts := [], laidByText := true, laidKinds := [.data, .data, .data, .data, .sentinel, .sentinel, .sentinel, .sentinel, .sentinel, .sentinel, .sentinel, .sentinel, .sentinel, .sentinel, .pinned], laidTests := true, laidLooks := .later }
def LockDiffsUptoCardSaid : Prop := Claim7.holds Tryz.pinned (.plain (OpenSpec.upto lockDiffsSpec)) lockDiffsUptoCard

/-- THE SECOND FORM's CARD OF 'chandlerylaw3.LockLoads'. -/
def lockLoadsUptoCard : Claim7 := { stood := { row := lockLoadsUptoRow, standIns := [], harness := (true, "7687e7fe6172671310b8fb70f35cc37992a30e8ac4b75f0dde831b1291ef1dfe"), looks := true }, kinds := [], alts := [], laidByText := true, laidKinds := [.data, .data, .data, .data, .sentinel, .sentinel, .sentinel, .sentinel, .sentinel, .sentinel, .sentinel, .sentinel, .sentinel, .sentinel, .sentinel, .sentinel, .sentinel, .sentinel, .pinned], laidTests := true, laidLooks := .later }
def LockLoadsUptoCardSaid : Prop := Claim7.holds Tryz.pinned (.plain (OpenSpec.upto lockLoadsSpec)) lockLoadsUptoCard

/-- THE SECOND FORM's CARD OF 'chandlerylaw3.LockTells'. -/
def lockTellsUptoCard : Claim7 := { stood := { row := lockTellsUptoRow, standIns := [], harness := (true, "7687e7fe6172671310b8fb70f35cc37992a30e8ac4b75f0dde831b1291ef1dfe"), looks := true }, kinds := [], alts := [], laidByText := true, laidKinds := [.data, .data, .data, .data, .handle, .sentinel, .sentinel, .sentinel, .sentinel, .sentinel, .sentinel, .sentinel, .sentinel, .sentinel, .sentinel, .sentinel, .sentinel, .sentinel, .sentinel, .sentinel, .pinned], laidTests := true, laidLooks := .later }
def LockTellsUptoCardSaid : Prop := Claim7.holds Tryz.pinned (.plain (OpenSpec.upto lockTellsSpec)) lockTellsUptoCard

/-- THE SECOND FORM's CARD OF 'chandlerylaw3.LockBundles'. -/
def lockBundlesUptoCard : Claim7 := { stood := { row := lockBundlesUptoRow, standIns := [], harness := (true, "7687e7fe6172671310b8fb70f35cc37992a30e8ac4b75f0dde831b1291ef1dfe"), looks := true }, kinds := [], alts := [], laidByText := true, laidKinds := [.data, .data, .data, .data, .handle, .sentinel, .sentinel, .sentinel, .sentinel, .sentinel, .sentinel, .sentinel, .sentinel, .sentinel, .sentinel, .sentinel, .sentinel, .sentinel, .sentinel, .sentinel, .pinned], laidTests := true, laidLooks := .later }
def LockBundlesUptoCardSaid : Prop := Claim7.holds Tryz.pinned (.plain (OpenSpec.upto lockBundlesSpec)) lockBundlesUptoCard
end Rows
end Go.Proofs.YtgchgdkpipanjaaGreatDoor
