/- The law's own small words: wanted, LongWant. -/
import Derived.Test.YtgchgdkpipanjaaGreatDoorKWantsUp
import Derived.Test.YtgchgdkpipanjaaGreatDoorKWantPlains
namespace Go.Proofs.YtgchgdkpipanjaaGreatDoor
open Go Go.RowKit

/-- 1: what is wanted is too long for a law. -/
def longW (x : WantB) : Nat := if 30 < x.name.size ∨ 120 < x.url.size ∨ 20 < x.kind.size then 1 else 0

set_option maxHeartbeats 1000000 in
set_option maxRecDepth 100000 in
theorem longWant_any (x : WantB) (w : World) :
    Calls Tryz.prog 26 #[.agg #[.string x.name, .string x.url, .string x.kind, .int .i64 x.strip, .int .i64 x.sum]] w fun e w' => e = .returned (.int .i64 (longW x)) ∧ Below w.heap.size w w' := by
  obtain ⟨px, hpx⟩ : ∃ px, w.heap.size = px := ⟨_, rfl⟩
  obtain ⟨wx, hwx⟩ : ∃ wx, w.alloc (.cells #[.string x.name, .string x.url, .string x.kind, .int .i64 x.strip, .int .i64 x.sum] 41) = wx := ⟨_, rfl⟩
  have hbx : Below w.heap.size w wx := by rw [← hwx]; exact (Below.refl _ _).alloc (Nat.le_refl _) _
  have BX := Lib.hid (show WBox wx px x by rw [← hwx, ← hpx]; exact WBox.new w x)
  have HB := Lib.hid hbx
  have HWX := Lib.hid hwx
  have HPX := Lib.hid hpx
  obtain ⟨c0, c1, c2, _, _⟩ := BX.out.cells
  clear hpx hwx hbx
  go_enter Tryz.func26, Tryz.ntmps26
  go_upto_region 1 with fail
  rw [HWX.out, HPX.out]
  by_cases h1 : 30 < x.name.size
  · have HL : Hid (longW x = 1) := by show _ = _; unfold longW; rw [if_pos (.inl h1)]
    go_wp2_with fail
    go_ret
    exact ⟨by rw [HL.out]; rfl, HB.out⟩
  · by_cases h2 : 120 < x.url.size
    · have HL : Hid (longW x = 1) := by show _ = _; unfold longW; rw [if_pos (.inr (.inl h2))]
      go_wp2_with fail
      go_ret
      exact ⟨by rw [HL.out]; rfl, HB.out⟩
    · by_cases h3 : 20 < x.kind.size
      · have HL : Hid (longW x = 1) := by show _ = _; unfold longW; rw [if_pos (.inr (.inr h3))]
        go_wp2_with fail
        go_ret
        exact ⟨by rw [HL.out]; rfl, HB.out⟩
      · have HL : Hid (longW x = 0) := by show _ = _; unfold longW; rw [if_neg (by omega)]
        go_wp2_with fail
        go_ret
        exact ⟨by rw [HL.out]; rfl, HB.out⟩
end Go.Proofs.YtgchgdkpipanjaaGreatDoor
