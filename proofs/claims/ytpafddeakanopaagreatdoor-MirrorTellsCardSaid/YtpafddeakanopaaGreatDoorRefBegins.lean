/- The reference's Begins by its contract. -/
import Derived.Test.YtpafddeakanopaaGreatDoorLinkOf
namespace Go.Proofs.YtpafddeakanopaaGreatDoor
open Go Go.RowKit

theorem refBegins_any (s p : ByteArray) (w : World) : Calls Tryz.prog 23 #[.string s, .string p] w fun e w' => e = .returned (.bool (Lib.hasPrefix (bl s) (bl p))) ∧ w = w' := by
  have hp : Lib.hasPrefix (bl s) (bl p) = (decide (p.size ≤ s.size) && ((bl s).take p.size == bl p)) := by
    rw [← bl_length p, ← bl_length s]
    exact (Lib.hasPrefix_of_take _ _).symm
  by_cases h : p.size ≤ s.size
  · have e1 : Lib.hasPrefix (bl s) (bl p) = ((bl s).take p.size == bl p) := by rw [hp, decide_eq_true h]; rfl
    have HE := Lib.hid e1
    have HX : Hid ((s.extract 0 p.size).toList = (bl s).take p.size) := by
      show _ = _
      rw [toList_bl]; show (s.extract 0 p.size).data.toList = _
      rw [ByteArray.data_extract, Array.toList_extract, List.extract_eq_take_drop]; simp; rfl
    have sl := slice_to s (p.size : Int) p.size h rfl
    clear hp e1
    go_enter Tryz.func23, Tryz.ntmps23
    go_wp2_with fail
    go_ret
    refine ⟨?_, rfl⟩
    show Ending.returned (Value.bool ((s.extract 0 p.size).toList == p.toList)) = _
    rw [HX.out, toList_bl, HE.out]
  · have e1 : Lib.hasPrefix (bl s) (bl p) = false := by rw [hp, decide_eq_false h]; rfl
    have HE := Lib.hid e1
    clear hp e1
    go_enter Tryz.func23, Tryz.ntmps23
    go_wp2_with fail
    go_ret
    exact ⟨by rw [HE.out]; rfl, rfl⟩
end Go.Proofs.YtpafddeakanopaaGreatDoor
