/- Rows with one pinned table, the handle and the thirteen: the condition. -/
import Derived.Test.YtamimigpnhblmaaGreatDoorJHanded
namespace Go.Proofs.YtamimigpnhblmaaGreatDoor
open Go Go.RowKit Go.ChangeShapes Go.WideShapes Go.ChangeAt Go.WideMaps Go.WideElems

theorem path_env {W : World} {laid : List (String × DataW Unit)} {a : String × DataW Unit} {rest : List (String × DataW Unit)} (h : laidMetH Tryz.prog laid W)
    (f1 : (laid.filter fun x => x.2.handleName?.isSome) = [("errors.errorType", Rows.laid_errors_errorType)])
    (f2 : (laid.filter fun x => x.2.handleName?.isNone) = a :: (apiErrs.map (fun x => (x.1, sentD x.2)) ++ rest)) (hm : W.ShapedOpen Tryz.prog) : ∃ E, Env E W ∧ ∃ m, W.cell? ⟨14, 0, none⟩ = some (.int .i64 m) := by
  unfold laidMetH at h
  rw [f1, f2] at h
  obtain ⟨E, hE⟩ := env_of h.1.tail (handle_of h.2 (List.mem_singleton.2 rfl))
  exact ⟨E, hE, maxI_of hm⟩
end Go.Proofs.YtamimigpnhblmaaGreatDoor
