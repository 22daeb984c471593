/- sum.Of, Right, power and the reference's own, by their contracts. -/
import Derived.Test.YtjebljhhbnfpfaaGreatDoorProg
import Derived.Test.YtjebljhhbnfpfaaGreatDoorJPlainly
import Derived.Lib.Hide
import Derived.IntWalk
namespace Go.Proofs.YtjebljhhbnfpfaaGreatDoor
open Go Go.RowKit

theorem sumFrom_step (s : ByteArray) (k n : Nat) (h : k < s.size) : sumFrom n ((bl s).drop k) = sumFrom ((n * 263 + s[k].toNat + 1) % sM) ((bl s).drop (k + 1)) := by
  rw [drop_cons s k h]; rfl

set_option maxRecDepth 100000 in
theorem sumOf_any (s : ByteArray) (w : World) (hs : s.size ≤ 9223372036854775807) :
    Calls Tryz.prog 43 #[.string s] w fun e w' => e = .returned (.int .i64 (sumL (bl s) : Nat)) ∧ w = w' := by
  go_enter Tryz.func43, Tryz.ntmps43
  go_wp2
  go_loop [3, 7] (fun n i => ∃ k m : Nat, k ≤ s.size ∧ m < 1000000007 ∧ i = .int .i64 k ∧ n = .int .i64 m ∧ Hid (sumFrom m ((bl s).drop k) = sumL (bl s))) (fun _ i => s.size - (intOf i).toNat)
  case atStart => exact ⟨0, 0, Nat.zero_le _, by decide, rfl, rfl, rfl⟩
  case round =>
    obtain ⟨k, m, hk, hm, rfl, rfl, H⟩ := hrel
    by_cases hlt : k < s.size
    · have H2 : Hid (sumFrom ((m * 263 + s[k].toNat + 1) % sM) ((bl s).drop (k + 1)) = sumL (bl s)) := by
        show _ = _; rw [← sumFrom_step s k m hlt]; exact H.out
      have hb := s[k].toNat_lt
      clear H
      go_wp2
      go_round
      case rel => exact ⟨k + 1, (m * 263 + s[k].toNat + 1) % 1000000007, by omega, by omega, by go_num, by go_num, H2⟩
      case measure => simp [intOf]; omega
    · have e : sumFrom m ((bl s).drop k) = m := by rw [drop_nil s k (by omega)]; rfl
      have E := Lib.hid e; clear e
      go_wp2
      go_ret
      rw [← H.out, E.out]
      exact ⟨rfl, rfl⟩

/-- Is a number a sum? -/
def rightB (i : Int) : Bool := decide (0 ≤ i) && decide (i < 1000000007)
theorem rightB_iff (i : Int) : rightB i = true ↔ 0 ≤ i ∧ i < 1000000007 := by simp [rightB]

/-- The loop of power: what is told times what is left. -/
def PowInv (out x n N : Nat) : Prop := (out * x ^ n) % sM = powM N
theorem PowInv.odd {out x n N : Nat} (h : PowInv out x n N) (h1 : n % 2 = 1) : PowInv (out * x % sM) (x * x % sM) (n / 2) N := by
  unfold PowInv at h ⊢
  rw [Nat.mul_mod, pow_half x n, if_pos h1] at h
  rw [← h]
  rw [Nat.mul_comm ((x * x % sM) ^ (n / 2)) x, ← Nat.mul_mod, Nat.mod_mul_mod, Nat.mul_assoc]
theorem PowInv.even {out x n N : Nat} (h : PowInv out x n N) (h1 : ¬ n % 2 = 1) : PowInv out (x * x % sM) (n / 2) N := by
  unfold PowInv at h ⊢
  rw [Nat.mul_mod, pow_half x n, if_neg h1, Nat.mul_one, ← Nat.mul_mod] at h
  exact h
theorem PowInv.start (N : Nat) : PowInv 1 263 N N := by unfold PowInv powM; rw [Nat.one_mul]
theorem PowInv.end {out x N : Nat} (h : PowInv out x 0 N) (ho : out < sM) : out = powM N := by
  unfold PowInv at h; rw [Nat.pow_zero, Nat.mul_one, Nat.mod_eq_of_lt ho] at h; exact h

theorem mul_lt_mod (a b : Nat) (ha : a < 1000000007) (hb : b < 1000000007) : a * b < 1000000014000000050 := by
  have : a * b ≤ 1000000006 * 1000000006 := Nat.mul_le_mul (by omega) (by omega)
  omega
theorem mul_lt_int (a b : Nat) (ha : a < 1000000007) (hb : b < 1000000007) : 0 ≤ (a : Int) * (b : Int) ∧ (a : Int) * (b : Int) < 1000000014000000050 := by
  rw [← Int.natCast_mul]
  have := mul_lt_mod a b ha hb
  omega
theorem mul_mod_int (a b : Nat) : ((a : Int) * (b : Int)) % 1000000007 = ((a * b % sM : Nat) : Int) := by
  rw [← Int.natCast_mul]; rfl

end Go.Proofs.YtjebljhhbnfpfaaGreatDoor
