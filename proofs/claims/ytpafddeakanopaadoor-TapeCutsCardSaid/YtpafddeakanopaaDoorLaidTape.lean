/- The tape: the condition of the row. -/
import Derived.Test.YtpafddeakanopaaDoorLaidTab
import Derived.Test.YtpafddeakanopaaDoorTaped
import Derived.Test.YtpafddeakanopaaDoorShaped
namespace Go.Proofs.YtpafddeakanopaaDoor
open Go Go.RowKit Go.ChangeShapes Go.WideShapes Go.ChangeAt Go.WideMaps Go.WideElems

def tapeErrs : List (String × List UInt8) := [("chandlery/api.ErrBound", [99, 104, 97, 110, 100, 108, 101, 114, 121, 58, 32, 98, 111, 117, 110, 100]), ("chandlery/api.ErrShape", [99, 104, 97, 110, 100, 108, 101, 114, 121, 58, 32, 115, 104, 97, 112, 101]), ("chandlery/api.ErrFull", [99, 104, 97, 110, 100, 108, 101, 114, 121, 58, 32, 102, 117, 108, 108]), ("chandlery/api.ErrOff", [99, 104, 97, 110, 100, 108, 101, 114, 121, 58, 32, 111, 102, 102]), ("strconv.ErrRange", [118, 97, 108, 117, 101, 32, 111, 117, 116, 32, 111, 102, 32, 114, 97, 110, 103, 101]), ("strconv.ErrSyntax", [105, 110, 118, 97, 108, 105, 100, 32, 115, 121, 110, 116, 97, 120])]
theorem tapeErrs_typed : (tapeErrs.all fun x => (Tryd.prog.globalNamed x.1).bind (fun g => (Tryd.prog.globals[g]?).map (·.type)) == some 27) = true := by kernel_rfl
theorem tape_env {W : World} {laid : List (String × DataW Unit)} {a b : String × DataW Unit} {rest : List (String × DataW Unit)} (h : laidMetH Tryd.prog laid W)
    (f1 : (laid.filter fun x => x.2.handleName?.isSome) = []) (f2 : laid = a :: b :: ("internal/strconv.uint64pow10", Lib.tabData .u64 Lib.pow10Tab) :: (tapeErrs.map (fun x => (x.1, sentD x.2)) ++ rest)) (hm : W.ShapedOpen Tryd.prog) :
    TapeEnv W := by
  unfold laidMetH at h
  rw [f1] at h
  have h4 : laidMet Tryd.prog laid W := h
  rw [f2] at h4
  have h3 := h4.tail.tail
  obtain ⟨ps, hv, hnd, hrows⟩ := h3.tail
  obtain ⟨ads, hS, _⟩ := sents_of tapeErrs tapeErrs_typed hv hnd hrows
  exact ⟨⟨⟨⟨_, Sents.at hS 5 (by decide) _ (by kernel_rfl), .inr ⟨_, _, rfl⟩⟩, ⟨_, Sents.at hS 4 (by decide) _ (by kernel_rfl), .inr ⟨_, _, rfl⟩⟩⟩, powTab_of h3, maxI_of hm⟩, _, _, Sents.at hS 3 (by decide) _ (by kernel_rfl)⟩
end Go.Proofs.YtpafddeakanopaaDoor
