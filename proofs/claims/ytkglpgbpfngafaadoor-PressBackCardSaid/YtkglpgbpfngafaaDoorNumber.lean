/- press.number by its contract. -/
import Derived.Test.YtkglpgbpfngafaaDoorProg
import Derived.Test.YtkglpgbpfngafaaDoorPlain
import Derived.Lib.Hide
namespace Go.Proofs.YtkglpgbpfngafaaDoor
open Go Go.RowKit

theorem numGo_step (s : ByteArray) (k m : Nat) (h : k < s.size) : numGo ((bl s).drop k) k m =
    if k < 9 ∧ 48 ≤ s[k].toNat ∧ s[k].toNat ≤ 57 ∧ (0 < k ∨ s[k].toNat ≠ 48) then numGo ((bl s).drop (k + 1)) (k + 1) (10 * m + (s[k].toNat - 48)) else (m, k) := by
  rw [drop_cons s k h]; rfl
theorem numGo_yes (s : ByteArray) (k m : Nat) (h : k < s.size) (a : (k : Int) < 9) (b : 48 ≤ (s[k].toNat : Int)) (c : (s[k].toNat : Int) ≤ 57) (d : 0 < k ∨ s[k].toNat ≠ 48) :
    numGo ((bl s).drop (k + 1)) (k + 1) (10 * m + (s[k].toNat - 48)) = numGo ((bl s).drop k) k m := by
  rw [numGo_step s k m h, if_pos ⟨by omega, by omega, by omega, d⟩]
theorem numGo_no (s : ByteArray) (k m : Nat) (h : k < s.size) (a : ¬ (k < 9 ∧ 48 ≤ s[k].toNat ∧ s[k].toNat ≤ 57 ∧ (0 < k ∨ s[k].toNat ≠ 48))) :
    numGo ((bl s).drop k) k m = (m, k) := by
  rw [numGo_step s k m h, if_neg a]

set_option maxHeartbeats 400000 in
theorem number_any (s : ByteArray) (w : World) (hs : s.size ≤ 9223372036854775807) :
    Calls Tryd.prog 85 #[.string s] w fun e w' =>
      e = .returned (.tuple #[.int .i64 ((numGo (bl s) 0 0).1 : Nat), .int .i64 ((numGo (bl s) 0 0).2 : Nat)]) ∧ w = w' := by
  go_enter Tryd.func85, Tryd.ntmps85
  go_wp2
  go_loop [2, 3] (fun n i => ∃ k m : Nat, k ≤ s.size ∧ k ≤ 9 ∧ m < 10 ^ k ∧ i = .int .i64 k ∧ n = .int .i64 m ∧ Hid (numGo ((bl s).drop k) k m = numGo (bl s) 0 0)) (fun _ i => s.size - (intOf i).toNat)
  case atStart => exact ⟨0, 0, Nat.zero_le _, Nat.zero_le _, by decide, rfl, rfl, rfl⟩
  case round =>
    obtain ⟨k, m, hk, hk9, hm, rfl, rfl, H⟩ := hrel
    have hp : 10 ^ k ≤ 10 ^ 9 := Nat.pow_le_pow_right (by decide) hk9
    have hm9 : m < 1000000000 := Nat.lt_of_lt_of_le hm hp
    clear hp
    by_cases hlt : k < s.size
    · by_cases hk0 : k = 0
      · subst hk0
        go_wp2
        · have q : ((s[0].toNat : Int) != 48) = true := by assumption
          have q' : s[0].toNat ≠ 48 := by have := bne_iff_ne.1 q; omega
          go_round
          case rel =>
            refine ⟨1, 10 * m + (s[0].toNat - 48), by omega, by omega, by simp at hm; subst hm; omega, rfl, by go_num, ?_⟩
            have := H.out
            rw [← numGo_yes s 0 m hlt (by omega) (by omega) (by omega) (.inr q')] at this
            exact this
          case measure => simp [intOf]; omega
        all_goals
          have q : ¬ (0 < 9 ∧ 48 ≤ s[0].toNat ∧ s[0].toNat ≤ 57 ∧ (0 < 0 ∨ s[0].toNat ≠ 48)) := by
            first | omega | (have q : ((s[0].toNat : Int) != 48) = false := by assumption
                             have q := bne_eq_false_iff_eq.1 q; omega)
          go_ret2
          rw [← H.out, numGo_no s 0 m hlt q]
          exact ⟨rfl, rfl⟩
      · have hk1 : 0 < k := by omega
        go_wp2
        · go_round
          case rel =>
            refine ⟨k + 1, 10 * m + (s[k].toNat - 48), by omega, by omega, by rw [Nat.pow_succ]; omega, by go_num, by go_num, ?_⟩
            have := H.out
            rw [← numGo_yes s k m hlt (by omega) (by omega) (by omega) (.inl hk1)] at this
            exact this
          case measure => simp [intOf]; omega
        all_goals
          go_ret2
          rw [← H.out, numGo_no s k m hlt (by omega)]
          exact ⟨rfl, rfl⟩
    · have e : numGo ((bl s).drop k) k m = (m, k) := by rw [drop_nil s k (by omega)]; rfl
      have E := Lib.hid e; clear e
      go_wp2
      go_ret2
      rw [← H.out, E.out]
      exact ⟨rfl, rfl⟩
end Go.Proofs.YtkglpgbpfngafaaDoor
