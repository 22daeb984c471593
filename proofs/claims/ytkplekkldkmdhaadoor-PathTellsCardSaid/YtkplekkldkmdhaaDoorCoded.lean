/- chandlerylaw1.coded. -/
import Derived.Test.YtkplekkldkmdhaaDoorCode
namespace Go.Proofs.YtkplekkldkmdhaaDoor
open Go Go.RowKit

/-- coded: an error's number, without a place. -/
def codedB (er : Er) (c : Int) : Bool := (er.code : Int) == c && er.at?.getD (-1) == -1

theorem coded_any {E : Nat → Addr} {w : World} {v : Value} {er : Er} (hE : Env E w) (hv : IsErr E w v er) (c : Int) : Calls Tryd.prog 24 #[v, .int .i64 c] w fun e w' =>
    e = .returned (.bool (codedB er c)) ∧ Below w.heap.size w w' := by
  have hc := Lib.hid (code_any hE hv)
  have hfin : codedB er c = ((er.code : Int) == c && er.at?.getD (-1) == -1) := rfl
  have HF := Lib.hid hfin; clear hfin hE hv
  generalize hk : (er.code : Int) = k at hc HF
  generalize ha : er.at?.getD (-1) = a at hc HF
  clear hk ha
  generalize codedB er c = r at HF ⊢
  cases h1 : (k == c)
  · go_enter Tryd.func24, Tryd.ntmps24
    go_wp2_with fail
    refine hc.out.mono ?_
    rintro e w' ⟨rfl, hb⟩
    go_wp2_with fail
    go_ret
    exact ⟨by rw [HF.out, h1]; rfl, hb⟩
  · go_enter Tryd.func24, Tryd.ntmps24
    go_wp2_with fail
    refine hc.out.mono ?_
    rintro e w' ⟨rfl, hb⟩
    go_wp2_with fail
    go_ret
    exact ⟨by rw [HF.out, h1]; simp, hb⟩
end Go.Proofs.YtkplekkldkmdhaaDoor
