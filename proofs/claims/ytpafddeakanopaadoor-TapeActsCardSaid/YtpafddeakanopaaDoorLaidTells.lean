/- Rows with strconv's errors too: the condition. -/
import Derived.Test.YtpafddeakanopaaDoorLaidTab
import Derived.Test.YtpafddeakanopaaDoorAtoi
namespace Go.Proofs.YtpafddeakanopaaDoor
open Go Go.RowKit Go.ChangeShapes Go.WideShapes Go.ChangeAt Go.WideMaps Go.WideElems

def convErrs : List (String × List UInt8) := [("strconv.ErrRange", [118, 97, 108, 117, 101, 32, 111, 117, 116, 32, 111, 102, 32, 114, 97, 110, 103, 101]), ("strconv.ErrSyntax", [105, 110, 118, 97, 108, 105, 100, 32, 115, 121, 110, 116, 97, 120])]
def atoiErrs : List (String × List UInt8) := apiErrs ++ convErrs
theorem atoiErrs_typed : (atoiErrs.all fun x => (Tryd.prog.globalNamed x.1).bind (fun g => (Tryd.prog.globals[g]?).map (·.type)) == some 27) = true := by kernel_rfl
/-- Rows that list two tables, the powers, the handle, the thirteen and strconv's two. -/
theorem tells_env {W : World} {laid : List (String × DataW Unit)} {a b : String × DataW Unit} {rest : List (String × DataW Unit)} (h : laidMetH Tryd.prog laid W)
    (f1 : (laid.filter fun x => x.2.handleName?.isSome) = [("errors.errorType", Rows.laid_errors_errorType)])
    (f2 : (laid.filter fun x => x.2.handleName?.isNone) = a :: b :: ("internal/strconv.uint64pow10", Lib.tabData .u64 Lib.pow10Tab) :: (atoiErrs.map (fun x => (x.1, sentD x.2)) ++ rest)) : ∃ E, Env E W ∧ AtoiEnv W ∧ PowTab W := by
  have g2 : (atoiErrs.map (fun x => (x.1, sentD x.2)) ++ rest) = (apiErrs.map (fun x => (x.1, sentD x.2)) ++ (convErrs.map (fun x => (x.1, sentD x.2)) ++ rest)) := by
    unfold atoiErrs; rw [List.map_append, List.append_assoc]
  obtain ⟨E, hE, ht⟩ := tab_env (laid := laid) (a := a) (b := b) (rest := convErrs.map (fun x => (x.1, sentD x.2)) ++ rest) h f1 (by rw [f2, g2])
  unfold laidMetH at h
  rw [f1, f2] at h
  have h3 := h.1.tail.tail
  obtain ⟨ps, hv, hnd, hrows⟩ := h3.tail
  obtain ⟨ads, hS, _⟩ := sents_of atoiErrs atoiErrs_typed hv hnd hrows
  exact ⟨E, hE, ⟨⟨_, Sents.at hS 14 (by decide) _ (by kernel_rfl), .inr ⟨_, _, rfl⟩⟩, ⟨_, Sents.at hS 13 (by decide) _ (by kernel_rfl), .inr ⟨_, _, rfl⟩⟩⟩, ht⟩
end Go.Proofs.YtpafddeakanopaaDoor
