/- The condition of a row that lists the table of powers too. -/
import Derived.Test.YtpafddeakanopaaDoorLaid
import Derived.Test.YtpafddeakanopaaDoorItoa
import Derived.Lib.LaidTab
namespace Go.Proofs.YtpafddeakanopaaDoor
open Go Go.RowKit Go.ChangeShapes Go.WideShapes Go.ChangeAt Go.WideMaps Go.WideElems

theorem Tryd.pow10Named : Tryd.prog.globalNamed "internal/strconv.uint64pow10" = some 17 := by kernel_rfl
theorem Tryd.pow10Type : (Tryd.prog.globals[17]?).map (·.type) = some 194 := by kernel_rfl
theorem Tryd.cellsU64 : Tryd.prog.cellsOf 179 = 1 := by kernel_rfl
theorem Tryd.cells20 : Tryd.prog.cellsOf 194 = 20 := by kernel_rfl

theorem powTab_of {W : World} {rest : List (String × DataW Unit)} (h : laidMet Tryd.prog (("internal/strconv.uint64pow10", Lib.tabData .u64 Lib.pow10Tab) :: rest) W) : PowTab W :=
  Lib.tabIs_of_head Tryd.pow10Named Tryd.pow10Type Tryd.underlying194 Tryd.underlying179 Tryd.cellsU64 Tryd.cells20 h

/-- Rows of the shape: two tables of bits, the powers, the handle, the thirteen. -/
theorem tab_env {W : World} {laid : List (String × DataW Unit)} {a b : String × DataW Unit} {rest : List (String × DataW Unit)} (h : laidMetH Tryd.prog laid W)
    (f1 : (laid.filter fun x => x.2.handleName?.isSome) = [("errors.errorType", Rows.laid_errors_errorType)])
    (f2 : (laid.filter fun x => x.2.handleName?.isNone) = a :: b :: ("internal/strconv.uint64pow10", Lib.tabData .u64 Lib.pow10Tab) :: (apiErrs.map (fun x => (x.1, sentD x.2)) ++ rest)) : ∃ E, Env E W ∧ PowTab W := by
  unfold laidMetH at h
  rw [f1, f2] at h
  have h3 := h.1.tail.tail
  obtain ⟨E, hE⟩ := env_of h3.tail (handle_of h.2 (List.mem_singleton.2 rfl))
  exact ⟨E, hE, powTab_of h3⟩
end Go.Proofs.YtpafddeakanopaaDoor
