/- Links: the condition of the row. -/
import Derived.Test.YtkplekkldkmdhaaDoorLaid
import Derived.Test.YtkplekkldkmdhaaDoorLink
import Derived.Test.YtkplekkldkmdhaaDoorShaped
namespace Go.Proofs.YtkplekkldkmdhaaDoor
open Go Go.RowKit Go.ChangeShapes Go.WideShapes Go.ChangeAt Go.WideMaps Go.WideElems

def linkErrs : List (String × List UInt8) := [("chandlery/api.ErrText", [99, 104, 97, 110, 100, 108, 101, 114, 121, 58, 32, 116, 101, 120, 116]), ("chandlery/api.ErrKind", [99, 104, 97, 110, 100, 108, 101, 114, 121, 58, 32, 107, 105, 110, 100]), ("chandlery/api.ErrName", [99, 104, 97, 110, 100, 108, 101, 114, 121, 58, 32, 110, 97, 109, 101]), ("chandlery/api.ErrNone", [99, 104, 97, 110, 100, 108, 101, 114, 121, 58, 32, 110, 111, 110, 101]), ("chandlery/api.ErrFull", [99, 104, 97, 110, 100, 108, 101, 114, 121, 58, 32, 102, 117, 108, 108])]
theorem linkErrs_typed : (linkErrs.all fun x => (Tryd.prog.globalNamed x.1).bind (fun g => (Tryd.prog.globals[g]?).map (·.type)) == some 24) = true := by kernel_rfl
/-- Rows that list one table and the five sentinels of links. -/
theorem link_env {W : World} {laid : List (String × DataW Unit)} {a : String × DataW Unit} {rest : List (String × DataW Unit)} (h : laidMetH Tryd.prog laid W)
    (f1 : (laid.filter fun x => x.2.handleName?.isSome) = []) (f2 : laid = a :: (linkErrs.map (fun x => (x.1, sentD x.2)) ++ rest)) (hm : W.ShapedOpen Tryd.prog) : ∃ E, LEnv E W := by
  unfold laidMetH at h
  rw [f1] at h
  have h4 : laidMet Tryd.prog laid W := h
  rw [f2] at h4
  obtain ⟨ps, hv, hnd, hrows⟩ := h4.tail
  obtain ⟨ads, hS, _⟩ := sents_of linkErrs linkErrs_typed hv hnd hrows
  have key : ∀ k : Nat, k < 5 → ∀ g, Tryd.prog.globalNamed ((linkErrs.map (·.1)).getD k "") = some g → W.cell? ⟨g, 0, none⟩ = some (.iface 188 (.pointer (some (ads.getD k default)))) := fun k hk g hg => Sents.at hS k hk g hg
  refine ⟨fun k => ads.getD (if k = 0 then 0 else if k = 3 then 1 else if k = 4 then 2 else if k = 5 then 3 else 4) default, ⟨⟨?_, ?_, maxI_of hm⟩, ?_, ?_, ?_⟩⟩
  · exact key 2 (by decide) _ (by kernel_rfl)
  · exact key 4 (by decide) _ (by kernel_rfl)
  · exact key 0 (by decide) _ (by kernel_rfl)
  · exact key 1 (by decide) _ (by kernel_rfl)
  · exact key 3 (by decide) _ (by kernel_rfl)
end Go.Proofs.YtkplekkldkmdhaaDoor
