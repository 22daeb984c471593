/- The law's own small word: chandlerylaw2.coded; an error's value by its number. -/
import Derived.Test.YtpafddeakanopaaDoorCode
import Derived.Test.YtpafddeakanopaaDoorPath
namespace Go.Proofs.YtpafddeakanopaaDoor
open Go Go.RowKit

/-- coded: an error's number, without a place. -/
def codedB2 (er : Er) (c : Int) : Bool := (er.code : Int) == c && er.at?.getD (-1) == -1

theorem codedTwo_any {E : Nat → Addr} {w : World} {v : Value} {er : Er} (hE : Env E w) (hv : IsErr E w v er) (c : Int) : Calls Tryd.prog 36 #[v, .int .i64 c] w fun e w' =>
    e = .returned (.bool (codedB2 er c)) ∧ Below w.heap.size w w' := by
  have hc := Lib.hid (code_any hE hv)
  have hfin : codedB2 er c = ((er.code : Int) == c && er.at?.getD (-1) == -1) := rfl
  have HF := Lib.hid hfin; clear hfin hE hv
  generalize hk : (er.code : Int) = k at hc HF
  generalize ha : er.at?.getD (-1) = a at hc HF
  clear hk ha
  generalize codedB2 er c = r at HF ⊢
  cases h1 : (k == c)
  · go_enter Tryd.func36, Tryd.ntmps36
    go_wp2_with fail
    refine hc.out.mono ?_
    rintro e w' ⟨rfl, hb⟩
    go_wp2_with fail
    go_ret
    exact ⟨by rw [HF.out, h1]; rfl, hb⟩
  · go_enter Tryd.func36, Tryd.ntmps36
    go_wp2_with fail
    refine hc.out.mono ?_
    rintro e w' ⟨rfl, hb⟩
    go_wp2_with fail
    go_ret
    exact ⟨by rw [HF.out, h1]; simp, hb⟩

theorem isErr_errV2 {E : Nat → Addr} {w : World} {c : Nat} (h : c ≤ 13) : IsErr E w (errV E c) ⟨c, none⟩ := by
  cases c with
  | zero => exact IsErr.nil E w
  | succ k => exact IsErr.base E w k (by omega)
theorem errCoded2 {E : Nat → Addr} {w : World} {c : Nat} (hE : Env E w) (h : c ≤ 13) : Calls Tryd.prog 36 #[errV E c, .int .i64 c] w fun e w' => e = .returned (.bool true) ∧ Below w.heap.size w w' := by
  refine (codedTwo_any hE (isErr_errV2 h) c).mono ?_
  rintro e w' ⟨rfl, hb⟩
  refine ⟨?_, hb⟩
  have : codedB2 ⟨c, none⟩ (c : Int) = true := by unfold codedB2; simp
  rw [this]
end Go.Proofs.YtpafddeakanopaaDoor
