/- The laws' own small words: coded, faulted; an error that is none of the thirteen. -/
import Derived.Test.YtkglpgbpfngafaaDoorCode
namespace Go.Proofs.YtkglpgbpfngafaaDoor
open Go Go.RowKit

/-- coded: an error's number, without a place. -/
def codedB (er : Er) (c : Int) : Bool := (er.code : Int) == c && er.at?.getD (-1) == -1

theorem coded_any {E : Nat → Addr} {w : World} {v : Value} {er : Er} (hE : Env E w) (hv : IsErr E w v er) (c : Int) : Calls Tryd.prog 13 #[v, .int .i64 c] w fun e w' =>
    e = .returned (.bool (codedB er c)) ∧ Below w.heap.size w w' := by
  have hc := Lib.hid (code_any hE hv)
  have hfin : codedB er c = ((er.code : Int) == c && er.at?.getD (-1) == -1) := rfl
  have HF := Lib.hid hfin; clear hfin hE hv
  generalize hk : (er.code : Int) = k at hc HF
  generalize ha : er.at?.getD (-1) = a at hc HF
  clear hk ha
  generalize codedB er c = r at HF ⊢
  cases h1 : (k == c)
  · go_enter Tryd.func13, Tryd.ntmps13
    go_wp2_with fail
    refine hc.out.mono ?_
    rintro e w' ⟨rfl, hb⟩
    go_wp2_with fail
    go_ret
    exact ⟨by rw [HF.out, h1]; rfl, hb⟩
  · go_enter Tryd.func13, Tryd.ntmps13
    go_wp2_with fail
    refine hc.out.mono ?_
    rintro e w' ⟨rfl, hb⟩
    go_wp2_with fail
    go_ret
    exact ⟨by rw [HF.out, h1]; simp, hb⟩

/-- faulted: an error's number and place. -/
def faultB (er : Er) (c a : Int) : Bool := (er.code : Int) == c && ((er.code : Int) == 0 || er.at?.getD (-1) == a)

theorem faulted_any {E : Nat → Addr} {w : World} {v : Value} {er : Er} (hE : Env E w) (hv : IsErr E w v er) (c a : Int) : Calls Tryd.prog 21 #[v, .agg #[.int .i64 c, .int .i64 a]] w fun e w' =>
    e = .returned (.bool (faultB er c a)) ∧ Below w.heap.size w w' := by
  have hc := Lib.hid (code_any (hE.ext ((Below.refl _ _).alloc (Nat.le_refl _) (.cells #[.int .i64 c, .int .i64 a] 43))) (hv.ext ((Below.refl _ _).alloc (Nat.le_refl _) _)))
  have hfin : faultB er c a = ((er.code : Int) == c && ((er.code : Int) == 0 || er.at?.getD (-1) == a)) := rfl
  have HF := Lib.hid hfin; clear hfin hE hv
  generalize hk : (er.code : Int) = k at hc HF
  generalize ha : er.at?.getD (-1) = b at hc HF
  clear hk ha
  generalize faultB er c a = r at HF ⊢
  cases h1 : (k == c)
  all_goals cases h2 : (k == 0)
  all_goals
    go_enter Tryd.func21, Tryd.ntmps21
    go_wp2_with fail
    refine hc.out.mono ?_
    rintro e w' ⟨rfl, hb⟩
    have hb' : Below w.heap.size w w' := ((Below.refl _ _).alloc (Nat.le_refl _) _).trans (hb.mono (by simp))
    have c0 : w'.cell? ⟨w.heap.size, 0, none⟩ = some (.int .i64 c) := by rw [hb.cell (p := ⟨w.heap.size, 0, none⟩) (by simp)]; simp
    have c1 : w'.cell? ⟨w.heap.size, 1, none⟩ = some (.int .i64 a) := by rw [hb.cell (p := ⟨w.heap.size, 1, none⟩) (by simp)]; simp
    clear hb
    go_wp2_with fail
    go_ret
    exact ⟨by rw [HF.out, h1]; simp [h2], hb'⟩
end Go.Proofs.YtkglpgbpfngafaaDoor
