/- The reference's SameTexts at two rows that read alike (as in XRefMore; for seats without its imports). -/
import Derived.Test.YtpafddeakanopaaGreatDoorPressPlain
import Derived.Test.YtpafddeakanopaaGreatDoorRow
import Derived.Test.YtpafddeakanopaaGreatDoorOwn
import Derived.Lib.Hide
namespace Go.Proofs.YtpafddeakanopaaGreatDoor
open Go Go.RowKit

set_option maxHeartbeats 400000 in
set_option maxRecDepth 100000 in
/-- SameTexts of two rows that read alike. -/
theorem sameTexts_same {w : World} {v u : Value} {xs ys : List ByteArray} (hv : Row encStr 1 w v xs) (hu : Row encStr 1 w u ys) (he : xs.map bl = ys.map bl) (hn : xs.length ≤ 1000000) :
    Calls Tryz.prog 12 #[v, u] w fun e w' => e = .returned (.bool true) ∧ Below w.heap.size w w' := by
  obtain rfl : xs = ys := by
    have inj : ∀ (a b : List ByteArray), a.map bl = b.map bl → a = b := by
      intro a
      induction a with
      | nil => intro b h; cases b with | nil => rfl | cons _ _ => cases h
      | cons x a ih =>
        intro b h
        cases b with
        | nil => cases h
        | cons y b =>
          rw [List.map_cons, List.map_cons] at h
          injection h with h1 h2
          rw [bl_inj h1, ih b h2]
    exact inj xs ys he
  obtain ⟨ao, cap, rfl, h1, h2, H3⟩ := hv.parts
  obtain ⟨ao2, cap2, rfl, h4, h5, H6⟩ := hu.parts
  have HM := Lib.hid H3
  have HN := Lib.hid H6
  clear H3 H6 hv hu he
  go_enter Tryz.func12, Tryz.ntmps12
  go_wp2_with fail
  go_loopw [5] (fun i w1 => ∃ k : Nat, k ≤ xs.length ∧ i = .int .i64 k ∧ Below w.heap.size w w1) (fun i _ => xs.length - (intOf i).toNat)
  case atStart => exact ⟨0, Nat.zero_le _, rfl, Below.refl _ _⟩
  case round =>
    obtain ⟨k, hk, rfl, hb⟩ := hrel
    by_cases hlt : k < xs.length
    · obtain ⟨b, off, rfl, hbl, hcell⟩ := HM.out k hlt
      obtain ⟨b2, off2, rfl, hbl2, hcell2⟩ := HN.out k hlt
      have c1 := hcell k hlt
      have c2 := hcell2 k hlt
      rw [← hb.cell (p := ⟨b, off + k, none⟩) hbl] at c1
      rw [← hb.cell (p := ⟨b2, off2 + k, none⟩) hbl2] at c2
      clear hcell hcell2
      have q : (xs[k].toList == xs[k].toList) = true := beq_iff_eq.2 rfl
      generalize xs[k] = z at c1 c2 q
      go_wp2_with fail
      go_quiet (fail)
      go_wp2_with fail
      go_roundw
      case rel => exact ⟨k + 1, by omega, by go_num, hb.trans ((below_drewN _ _ _).mono hb.size)⟩
      case measure => simp [intOf]; omega
    · obtain rfl : k = xs.length := by omega
      go_wp2_with fail
      go_ret
      exact ⟨rfl, hb⟩
end Go.Proofs.YtpafddeakanopaaGreatDoor
