/-
  NARROWER THAN 'FOR EVERY INPUT', by the rows' own cells (each row's printed sentence says how): TreeGrafts: laid · TreeStrips: laid · TreeTells: laid.
  DERIVED. THE GIVEN ROWS OF THIS SEAT. 3 by the template 'for every input the law returns true; each argument reads behind the call as it read before'; 0 by the template 'total and deterministic' (their statements: YtbaflplahaojbaaGreatDoorTotals.lean).
  GIVEN WITH THE SEED: the statements are not yours to turn. If you find one false, say at which input.
  Laid BY PROGRAM, IN A SANDBOX (cutbox-rows.mjs): the forced cells as the released guide's own fill.sh prints them over the translation 34db86aa2ba4faf2… (all of the seat's roots in one cut). By AI agents, Wed Nov 11 2026. No macro, syntax, notation, axiom, sorry.
-/
import Derived.Test.YtbaflplahaojbaaGreatDoorChecked
import GoSem.PinnedTables
import GoSem.Claim
import GoSem.ClaimJoined
import GoSem.ClaimMapViews
import Derived.JoinedTies
import Derived.KernelRfl
namespace Go.Proofs.YtbaflplahaojbaaGreatDoor
/- THE CELL 'sum', in the pinned program and in every row, IS THE sha256 OF THE DUMP (.gsa) THAT YtbaflplahaojbaaGreatDoorProg.lean LOADS. Nothing in Lean hashes anything: it is a label: what it is worth is what the hold of that sum in a sandbox is worth. -/
noncomputable def Tryz.pinned : Pinned := { name := "ytbaflplahaojbaagreatdoor", sum := "34db86aa2ba4faf2c45285478e3cb203acad1d2c4df2acc41c3aa6434e365d09", checked := Tryz.checked }
namespace Rows
def none {H : Type} : Left H := { results := [], args := [] }

/- WHAT THE LISTED PACKAGE-LEVEL VARIABLES READ AS WHEN THE CALL BEGINS. Each datum BY PROGRAM (the guide's laid-datum.mjs) off the statement by which the dump's own 'gosem.cut.vars' lays the variable. In a bare row this is a premise. The card (YtbaflplahaojbaaGreatDoorCards.lean) ties it to the program's text. -/
def laid_unicode_utf8_acceptRanges {H : Type} : DataW H := .agg [.agg [.lit (.int .u8 128), .lit (.int .u8 191)], .agg [.lit (.int .u8 160), .lit (.int .u8 191)], .agg [.lit (.int .u8 128), .lit (.int .u8 159)], .agg [.lit (.int .u8 144), .lit (.int .u8 191)], .agg [.lit (.int .u8 128), .lit (.int .u8 143)], .agg [.lit (.int .u8 0), .lit (.int .u8 0)], .agg [.lit (.int .u8 0), .lit (.int .u8 0)], .agg [.lit (.int .u8 0), .lit (.int .u8 0)], .agg [.lit (.int .u8 0), .lit (.int .u8 0)], .agg [.lit (.int .u8 0), .lit (.int .u8 0)], .agg [.lit (.int .u8 0), .lit (.int .u8 0)], .agg [.lit (.int .u8 0), .lit (.int .u8 0)], .agg [.lit (.int .u8 0), .lit (.int .u8 0)], .agg [.lit (.int .u8 0), .lit (.int .u8 0)], .agg [.lit (.int .u8 0), .lit (.int .u8 0)], .agg [.lit (.int .u8 0), .lit (.int .u8 0)]]
def laid_errors_errorType {H : Type} : DataW H := .iface "internal/reflectlite.rtype" (.agg [.ptr (.lit (.string [101, 114, 114, 111, 114]))])
def laid_chandlery_api_ErrText {H : Type} : DataW H := .iface "*errors.errorString" (.ptr (.agg [.lit (.string [99, 104, 97, 110, 100, 108, 101, 114, 121, 58, 32, 116, 101, 120, 116])]))
def laid_chandlery_api_ErrBound {H : Type} : DataW H := .iface "*errors.errorString" (.ptr (.agg [.lit (.string [99, 104, 97, 110, 100, 108, 101, 114, 121, 58, 32, 98, 111, 117, 110, 100])]))
def laid_chandlery_api_ErrShape {H : Type} : DataW H := .iface "*errors.errorString" (.ptr (.agg [.lit (.string [99, 104, 97, 110, 100, 108, 101, 114, 121, 58, 32, 115, 104, 97, 112, 101])]))
def laid_chandlery_api_ErrKind {H : Type} : DataW H := .iface "*errors.errorString" (.ptr (.agg [.lit (.string [99, 104, 97, 110, 100, 108, 101, 114, 121, 58, 32, 107, 105, 110, 100])]))
def laid_chandlery_api_ErrName {H : Type} : DataW H := .iface "*errors.errorString" (.ptr (.agg [.lit (.string [99, 104, 97, 110, 100, 108, 101, 114, 121, 58, 32, 110, 97, 109, 101])]))
def laid_chandlery_api_ErrNone {H : Type} : DataW H := .iface "*errors.errorString" (.ptr (.agg [.lit (.string [99, 104, 97, 110, 100, 108, 101, 114, 121, 58, 32, 110, 111, 110, 101])]))
def laid_chandlery_api_ErrExist {H : Type} : DataW H := .iface "*errors.errorString" (.ptr (.agg [.lit (.string [99, 104, 97, 110, 100, 108, 101, 114, 121, 58, 32, 101, 120, 105, 115, 116])]))
def laid_chandlery_api_ErrFull {H : Type} : DataW H := .iface "*errors.errorString" (.ptr (.agg [.lit (.string [99, 104, 97, 110, 100, 108, 101, 114, 121, 58, 32, 102, 117, 108, 108])]))
def laid_chandlery_api_ErrOrder {H : Type} : DataW H := .iface "*errors.errorString" (.ptr (.agg [.lit (.string [99, 104, 97, 110, 100, 108, 101, 114, 121, 58, 32, 111, 114, 100, 101, 114])]))
def laid_chandlery_api_ErrOut {H : Type} : DataW H := .iface "*errors.errorString" (.ptr (.agg [.lit (.string [99, 104, 97, 110, 100, 108, 101, 114, 121, 58, 32, 111, 117, 116])]))
def laid_chandlery_api_ErrClash {H : Type} : DataW H := .iface "*errors.errorString" (.ptr (.agg [.lit (.string [99, 104, 97, 110, 100, 108, 101, 114, 121, 58, 32, 99, 108, 97, 115, 104])]))
def laid_chandlery_api_ErrSum {H : Type} : DataW H := .iface "*errors.errorString" (.ptr (.agg [.lit (.string [99, 104, 97, 110, 100, 108, 101, 114, 121, 58, 32, 115, 117, 109])]))
def laid_chandlery_api_ErrOff {H : Type} : DataW H := .iface "*errors.errorString" (.ptr (.agg [.lit (.string [99, 104, 97, 110, 100, 108, 101, 114, 121, 58, 32, 111, 102, 102])]))
/-- One of Go's own tables, pinned by name: the form's constant. -/
def laid_unicode_utf8_first : DataW Unit := Go.Pinned.utf8First

/-- 'chandlerylaw1.TreeGrafts': WHATEVER THE INPUT: true; the input reads as it did. -/
def treeGraftsSpec : ChangeSpec := { name := "treeGrafts", fn := fun _ => fun
  | [d1, d2, d3, d4] => { results := [.lit (.bool true)], args := [d1, d2, d3, d4] }
  | _ => none }
def treeGraftsRow : OpenClaim := { program := "ytbaflplahaojbaagreatdoor", sum := "34db86aa2ba4faf2c45285478e3cb203acad1d2c4df2acc41c3aa6434e365d09", func := "chandlery/chandlerylaw1.TreeGrafts", spec := "treeGrafts", inPlace := ["internal/bytealg.CountString", "internal/bytealg.IndexByteString", "internal/bytealg.IndexString", "internal/bytealg.abigen_runtime_cmpstring", "slices.overlaps[chandlery/api.File]", "internal/reflectlite.ValueOf", "(internal/reflectlite.Value).Type", "(internal/reflectlite.Value).IsNil", "internal/reflectlite.TypeOf", "(internal/reflectlite.Value).Elem", "(internal/reflectlite.Value).Set", "internal/abi.NoEscape", "internal/bytealg.MakeNoZero"], unfollowed := true, recurses := true, named := ["chandlery/api.ErrFull", "chandlery/api.ErrBound", "chandlery/api.ErrOrder", "chandlery/api.ErrClash", "chandlery/api.ErrName", "unicode/utf8.first", "unicode/utf8.acceptRanges", "internal/bytealg.MaxLen", "chandlery/api.ErrText", "chandlery/api.ErrShape", "chandlery/api.ErrKind", "chandlery/api.ErrNone", "chandlery/api.ErrExist", "chandlery/api.ErrOut", "chandlery/api.ErrSum", "chandlery/api.ErrOff", "errors.errorType"], apart := false, laid := [("unicode/utf8.acceptRanges", laid_unicode_utf8_acceptRanges), ("errors.errorType", laid_errors_errorType), ("chandlery/api.ErrText", laid_chandlery_api_ErrText), ("chandlery/api.ErrBound", laid_chandlery_api_ErrBound), ("chandlery/api.ErrShape", laid_chandlery_api_ErrShape), ("chandlery/api.ErrKind", laid_chandlery_api_ErrKind), ("chandlery/api.ErrName", laid_chandlery_api_ErrName), ("chandlery/api.ErrNone", laid_chandlery_api_ErrNone), ("chandlery/api.ErrExist", laid_chandlery_api_ErrExist), ("chandlery/api.ErrFull", laid_chandlery_api_ErrFull), ("chandlery/api.ErrOrder", laid_chandlery_api_ErrOrder), ("chandlery/api.ErrOut", laid_chandlery_api_ErrOut), ("chandlery/api.ErrClash", laid_chandlery_api_ErrClash), ("chandlery/api.ErrSum", laid_chandlery_api_ErrSum), ("chandlery/api.ErrOff", laid_chandlery_api_ErrOff), ("unicode/utf8.first", laid_unicode_utf8_first)] }
def TreeGraftsSaid : Prop := treeGraftsRow.holds Tryz.pinned (OpenSpec.ofChange treeGraftsSpec)

/-- ITS FALSE NEIGHBOUR: 'it returns false'. Refute it at one input. -/
def treeGraftsWrong : ChangeSpec := { name := "treeGrafts", fn := fun _ => fun
  | [d1, d2, d3, d4] => { results := [.lit (.bool false)], args := [d1, d2, d3, d4] }
  | _ => none }
def TreeGraftsWrongFalsely : Prop := treeGraftsRow.holds Tryz.pinned (OpenSpec.ofChange treeGraftsWrong)

/-- 'chandlerylaw1.TreeStrips': WHATEVER THE INPUT: true; the input reads as it did. -/
def treeStripsSpec : ChangeSpec := { name := "treeStrips", fn := fun _ => fun
  | [d1, d2, d3, d4] => { results := [.lit (.bool true)], args := [d1, d2, d3, d4] }
  | _ => none }
def treeStripsRow : OpenClaim := { program := "ytbaflplahaojbaagreatdoor", sum := "34db86aa2ba4faf2c45285478e3cb203acad1d2c4df2acc41c3aa6434e365d09", func := "chandlery/chandlerylaw1.TreeStrips", spec := "treeStrips", inPlace := ["internal/bytealg.CountString", "internal/bytealg.IndexByteString", "internal/bytealg.IndexString", "internal/bytealg.abigen_runtime_cmpstring", "slices.overlaps[chandlery/api.File]", "internal/reflectlite.ValueOf", "(internal/reflectlite.Value).Type", "(internal/reflectlite.Value).IsNil", "internal/reflectlite.TypeOf", "(internal/reflectlite.Value).Elem", "(internal/reflectlite.Value).Set", "internal/abi.NoEscape", "internal/bytealg.MakeNoZero"], unfollowed := true, recurses := true, named := ["chandlery/api.ErrFull", "chandlery/api.ErrBound", "chandlery/api.ErrOrder", "chandlery/api.ErrClash", "chandlery/api.ErrName", "unicode/utf8.first", "unicode/utf8.acceptRanges", "internal/bytealg.MaxLen", "chandlery/api.ErrText", "chandlery/api.ErrShape", "chandlery/api.ErrKind", "chandlery/api.ErrNone", "chandlery/api.ErrExist", "chandlery/api.ErrOut", "chandlery/api.ErrSum", "chandlery/api.ErrOff", "errors.errorType"], apart := false, laid := [("unicode/utf8.acceptRanges", laid_unicode_utf8_acceptRanges), ("errors.errorType", laid_errors_errorType), ("chandlery/api.ErrText", laid_chandlery_api_ErrText), ("chandlery/api.ErrBound", laid_chandlery_api_ErrBound), ("chandlery/api.ErrShape", laid_chandlery_api_ErrShape), ("chandlery/api.ErrKind", laid_chandlery_api_ErrKind), ("chandlery/api.ErrName", laid_chandlery_api_ErrName), ("chandlery/api.ErrNone", laid_chandlery_api_ErrNone), ("chandlery/api.ErrExist", laid_chandlery_api_ErrExist), ("chandlery/api.ErrFull", laid_chandlery_api_ErrFull), ("chandlery/api.ErrOrder", laid_chandlery_api_ErrOrder), ("chandlery/api.ErrOut", laid_chandlery_api_ErrOut), ("chandlery/api.ErrClash", laid_chandlery_api_ErrClash), ("chandlery/api.ErrSum", laid_chandlery_api_ErrSum), ("chandlery/api.ErrOff", laid_chandlery_api_ErrOff), ("unicode/utf8.first", laid_unicode_utf8_first)] }
def TreeStripsSaid : Prop := treeStripsRow.holds Tryz.pinned (OpenSpec.ofChange treeStripsSpec)

/-- ITS FALSE NEIGHBOUR: 'it returns false'. Refute it at one input. -/
def treeStripsWrong : ChangeSpec := { name := "treeStrips", fn := fun _ => fun
  | [d1, d2, d3, d4] => { results := [.lit (.bool false)], args := [d1, d2, d3, d4] }
  | _ => none }
def TreeStripsWrongFalsely : Prop := treeStripsRow.holds Tryz.pinned (OpenSpec.ofChange treeStripsWrong)

/-- 'chandlerylaw1.TreeTells': WHATEVER THE INPUT: true; the input reads as it did. -/
def treeTellsSpec : ChangeSpec := { name := "treeTells", fn := fun _ => fun
  | [d1, d2, d3, d4, d5] => { results := [.lit (.bool true)], args := [d1, d2, d3, d4, d5] }
  | _ => none }
def treeTellsRow : OpenClaim := { program := "ytbaflplahaojbaagreatdoor", sum := "34db86aa2ba4faf2c45285478e3cb203acad1d2c4df2acc41c3aa6434e365d09", func := "chandlery/chandlerylaw1.TreeTells", spec := "treeTells", inPlace := ["internal/bytealg.CountString", "internal/bytealg.IndexByteString", "internal/bytealg.IndexString", "internal/bytealg.abigen_runtime_cmpstring", "slices.overlaps[chandlery/api.File]", "internal/reflectlite.ValueOf", "(internal/reflectlite.Value).Type", "(internal/reflectlite.Value).IsNil", "internal/reflectlite.TypeOf", "(internal/reflectlite.Value).Elem", "(internal/reflectlite.Value).Set", "internal/abi.NoEscape", "internal/bytealg.MakeNoZero"], unfollowed := true, recurses := true, named := ["chandlery/api.ErrFull", "chandlery/api.ErrBound", "chandlery/api.ErrOrder", "chandlery/api.ErrClash", "chandlery/api.ErrName", "unicode/utf8.first", "unicode/utf8.acceptRanges", "internal/bytealg.MaxLen", "chandlery/api.ErrText", "chandlery/api.ErrShape", "chandlery/api.ErrKind", "chandlery/api.ErrNone", "chandlery/api.ErrExist", "chandlery/api.ErrOut", "chandlery/api.ErrSum", "chandlery/api.ErrOff", "errors.errorType"], apart := false, laid := [("unicode/utf8.acceptRanges", laid_unicode_utf8_acceptRanges), ("errors.errorType", laid_errors_errorType), ("chandlery/api.ErrText", laid_chandlery_api_ErrText), ("chandlery/api.ErrBound", laid_chandlery_api_ErrBound), ("chandlery/api.ErrShape", laid_chandlery_api_ErrShape), ("chandlery/api.ErrKind", laid_chandlery_api_ErrKind), ("chandlery/api.ErrName", laid_chandlery_api_ErrName), ("chandlery/api.ErrNone", laid_chandlery_api_ErrNone), ("chandlery/api.ErrExist", laid_chandlery_api_ErrExist), ("chandlery/api.ErrFull", laid_chandlery_api_ErrFull), ("chandlery/api.ErrOrder", laid_chandlery_api_ErrOrder), ("chandlery/api.ErrOut", laid_chandlery_api_ErrOut), ("chandlery/api.ErrClash", laid_chandlery_api_ErrClash), ("chandlery/api.ErrSum", laid_chandlery_api_ErrSum), ("chandlery/api.ErrOff", laid_chandlery_api_ErrOff), ("unicode/utf8.first", laid_unicode_utf8_first)] }
def TreeTellsSaid : Prop := treeTellsRow.holds Tryz.pinned (OpenSpec.ofChange treeTellsSpec)

/-- ITS FALSE NEIGHBOUR: 'it returns false'. Refute it at one input. -/
def treeTellsWrong : ChangeSpec := { name := "treeTells", fn := fun _ => fun
  | [d1, d2, d3, d4, d5] => { results := [.lit (.bool false)], args := [d1, d2, d3, d4, d5] }
  | _ => none }
def TreeTellsWrongFalsely : Prop := treeTellsRow.holds Tryz.pinned (OpenSpec.ofChange treeTellsWrong)

/- THE SECOND FORM. 'bulk': how many values and letters a reading holds, each counted each time it is reached (what is shared counts as often as it is met; a slice's spare places count too). A statement '..UptoSaid' is the law's where the arguments, and the package variables that the reading takes, are together of bulk at most 1048576: NARROWER than '..Said'. Prove '..Said' where nothing that the law and all that it calls make is longer than what came in: it says more and counts as full. Else prove '..UptoSaid'. A law counts once. -/
mutual
def uptoBulk {H : Type} : DataW H → Nat
  | .lit (.string bytes) => bytes.length + 1
  | .lit _ => 1
  | .nil => 1
  | .ptr d => uptoBulk d + 1
  | .slice elems spare => uptoBulkAll elems + uptoBulkAll spare + 1
  | .agg parts => uptoBulkAll parts + 1
  | .iface _ d => uptoBulk d + 1
  | .map entries => uptoBulkEntries entries + 1
  | .held _ => 1
def uptoBulkAll {H : Type} : List (DataW H) → Nat
  | [] => 0
  | d :: r => uptoBulk d + uptoBulkAll r
def uptoBulkEntries {H : Type} : List (Lit × DataW H) → Nat
  | [] => 0
  | x :: r => uptoBulkEntry x + uptoBulkEntries r
def uptoBulkEntry {H : Type} : Lit × DataW H → Nat
  | (.string bytes, d) => bytes.length + uptoBulk d + 1
  | (_, d) => uptoBulk d + 1
 end
def uptoSmall : (H : Type) → List (DataW H) → Bool := fun _ ds => decide (uptoBulkAll ds ≤ 1048576)
def OpenSpec.upto (s : _root_.Go.ChangeSpec) : _root_.Go.OpenSpec := { _root_.Go.OpenSpec.ofChange s with cond := some uptoSmall }

/-- 'chandlerylaw1.TreeGrafts', WHERE WHAT IT READS IS OF BULK AT MOST 1048576: true; the input reads as it did. -/
def treeGraftsUptoRow : OpenClaim := { program := "ytbaflplahaojbaagreatdoor", sum := "34db86aa2ba4faf2c45285478e3cb203acad1d2c4df2acc41c3aa6434e365d09", func := "chandlery/chandlerylaw1.TreeGrafts", spec := "treeGrafts", inPlace := ["internal/bytealg.CountString", "internal/bytealg.IndexByteString", "internal/bytealg.IndexString", "internal/bytealg.abigen_runtime_cmpstring", "slices.overlaps[chandlery/api.File]", "internal/reflectlite.ValueOf", "(internal/reflectlite.Value).Type", "(internal/reflectlite.Value).IsNil", "internal/reflectlite.TypeOf", "(internal/reflectlite.Value).Elem", "(internal/reflectlite.Value).Set", "internal/abi.NoEscape", "internal/bytealg.MakeNoZero"], unfollowed := true, recurses := true, named := ["chandlery/api.ErrFull", "chandlery/api.ErrBound", "chandlery/api.ErrOrder", "chandlery/api.ErrClash", "chandlery/api.ErrName", "unicode/utf8.first", "unicode/utf8.acceptRanges", "internal/bytealg.MaxLen", "chandlery/api.ErrText", "chandlery/api.ErrShape", "chandlery/api.ErrKind", "chandlery/api.ErrNone", "chandlery/api.ErrExist", "chandlery/api.ErrOut", "chandlery/api.ErrSum", "chandlery/api.ErrOff", "errors.errorType"], apart := false, laid := [("unicode/utf8.acceptRanges", laid_unicode_utf8_acceptRanges), ("errors.errorType", laid_errors_errorType), ("chandlery/api.ErrText", laid_chandlery_api_ErrText), ("chandlery/api.ErrBound", laid_chandlery_api_ErrBound), ("chandlery/api.ErrShape", laid_chandlery_api_ErrShape), ("chandlery/api.ErrKind", laid_chandlery_api_ErrKind), ("chandlery/api.ErrName", laid_chandlery_api_ErrName), ("chandlery/api.ErrNone", laid_chandlery_api_ErrNone), ("chandlery/api.ErrExist", laid_chandlery_api_ErrExist), ("chandlery/api.ErrFull", laid_chandlery_api_ErrFull), ("chandlery/api.ErrOrder", laid_chandlery_api_ErrOrder), ("chandlery/api.ErrOut", laid_chandlery_api_ErrOut), ("chandlery/api.ErrClash", laid_chandlery_api_ErrClash), ("chandlery/api.ErrSum", laid_chandlery_api_ErrSum), ("chandlery/api.ErrOff", laid_chandlery_api_ErrOff), ("unicode/utf8.first", laid_unicode_utf8_first)], narrowed := true }
def TreeGraftsUptoSaid : Prop := treeGraftsUptoRow.holds Tryz.pinned (OpenSpec.upto treeGraftsSpec)

/-- 'chandlerylaw1.TreeStrips', WHERE WHAT IT READS IS OF BULK AT MOST 1048576: true; the input reads as it did. -/
def treeStripsUptoRow : OpenClaim := { program := "ytbaflplahaojbaagreatdoor", sum := "34db86aa2ba4faf2c45285478e3cb203acad1d2c4df2acc41c3aa6434e365d09", func := "chandlery/chandlerylaw1.TreeStrips", spec := "treeStrips", inPlace := ["internal/bytealg.CountString", "internal/bytealg.IndexByteString", "internal/bytealg.IndexString", "internal/bytealg.abigen_runtime_cmpstring", "slices.overlaps[chandlery/api.File]", "internal/reflectlite.ValueOf", "(internal/reflectlite.Value).Type", "(internal/reflectlite.Value).IsNil", "internal/reflectlite.TypeOf", "(internal/reflectlite.Value).Elem", "(internal/reflectlite.Value).Set", "internal/abi.NoEscape", "internal/bytealg.MakeNoZero"], unfollowed := true, recurses := true, named := ["chandlery/api.ErrFull", "chandlery/api.ErrBound", "chandlery/api.ErrOrder", "chandlery/api.ErrClash", "chandlery/api.ErrName", "unicode/utf8.first", "unicode/utf8.acceptRanges", "internal/bytealg.MaxLen", "chandlery/api.ErrText", "chandlery/api.ErrShape", "chandlery/api.ErrKind", "chandlery/api.ErrNone", "chandlery/api.ErrExist", "chandlery/api.ErrOut", "chandlery/api.ErrSum", "chandlery/api.ErrOff", "errors.errorType"], apart := false, laid := [("unicode/utf8.acceptRanges", laid_unicode_utf8_acceptRanges), ("errors.errorType", laid_errors_errorType), ("chandlery/api.ErrText", laid_chandlery_api_ErrText), ("chandlery/api.ErrBound", laid_chandlery_api_ErrBound), ("chandlery/api.ErrShape", laid_chandlery_api_ErrShape), ("chandlery/api.ErrKind", laid_chandlery_api_ErrKind), ("chandlery/api.ErrName", laid_chandlery_api_ErrName), ("chandlery/api.ErrNone", laid_chandlery_api_ErrNone), ("chandlery/api.ErrExist", laid_chandlery_api_ErrExist), ("chandlery/api.ErrFull", laid_chandlery_api_ErrFull), ("chandlery/api.ErrOrder", laid_chandlery_api_ErrOrder), ("chandlery/api.ErrOut", laid_chandlery_api_ErrOut), ("chandlery/api.ErrClash", laid_chandlery_api_ErrClash), ("chandlery/api.ErrSum", laid_chandlery_api_ErrSum), ("chandlery/api.ErrOff", laid_chandlery_api_ErrOff), ("unicode/utf8.first", laid_unicode_utf8_first)], narrowed := true }
def TreeStripsUptoSaid : Prop := treeStripsUptoRow.holds Tryz.pinned (OpenSpec.upto treeStripsSpec)

/-- 'chandlerylaw1.TreeTells', WHERE WHAT IT READS IS OF BULK AT MOST 1048576: true; the input reads as it did. -/
def treeTellsUptoRow : OpenClaim := { program := "ytbaflplahaojbaagreatdoor", sum := "34db86aa2ba4faf2c45285478e3cb203acad1d2c4df2acc41c3aa6434e365d09", func := "chandlery/chandlerylaw1.TreeTells", spec := "treeTells", inPlace := ["internal/bytealg.CountString", "internal/bytealg.IndexByteString", "internal/bytealg.IndexString", "internal/bytealg.abigen_runtime_cmpstring", "slices.overlaps[chandlery/api.File]", "internal/reflectlite.ValueOf", "(internal/reflectlite.Value).Type", "(internal/reflectlite.Value).IsNil", "internal/reflectlite.TypeOf", "(internal/reflectlite.Value).Elem", "(internal/reflectlite.Value).Set", "internal/abi.NoEscape", "internal/bytealg.MakeNoZero"], unfollowed := true, recurses := true, named := ["chandlery/api.ErrFull", "chandlery/api.ErrBound", "chandlery/api.ErrOrder", "chandlery/api.ErrClash", "chandlery/api.ErrName", "unicode/utf8.first", "unicode/utf8.acceptRanges", "internal/bytealg.MaxLen", "chandlery/api.ErrText", "chandlery/api.ErrShape", "chandlery/api.ErrKind", "chandlery/api.ErrNone", "chandlery/api.ErrExist", "chandlery/api.ErrOut", "chandlery/api.ErrSum", "chandlery/api.ErrOff", "errors.errorType"], apart := false, laid := [("unicode/utf8.acceptRanges", laid_unicode_utf8_acceptRanges), ("errors.errorType", laid_errors_errorType), ("chandlery/api.ErrText", laid_chandlery_api_ErrText), ("chandlery/api.ErrBound", laid_chandlery_api_ErrBound), ("chandlery/api.ErrShape", laid_chandlery_api_ErrShape), ("chandlery/api.ErrKind", laid_chandlery_api_ErrKind), ("chandlery/api.ErrName", laid_chandlery_api_ErrName), ("chandlery/api.ErrNone", laid_chandlery_api_ErrNone), ("chandlery/api.ErrExist", laid_chandlery_api_ErrExist), ("chandlery/api.ErrFull", laid_chandlery_api_ErrFull), ("chandlery/api.ErrOrder", laid_chandlery_api_ErrOrder), ("chandlery/api.ErrOut", laid_chandlery_api_ErrOut), ("chandlery/api.ErrClash", laid_chandlery_api_ErrClash), ("chandlery/api.ErrSum", laid_chandlery_api_ErrSum), ("chandlery/api.ErrOff", laid_chandlery_api_ErrOff), ("unicode/utf8.first", laid_unicode_utf8_first)], narrowed := true }
def TreeTellsUptoSaid : Prop := treeTellsUptoRow.holds Tryz.pinned (OpenSpec.upto treeTellsSpec)

end Rows
end Go.Proofs.YtbaflplahaojbaaGreatDoor
