/- sum.Of, Right, power and the reference's own, by their contracts. -/
import Derived.Test.YtkplekkldkmdhaaDoorProg
import Derived.Test.YtkplekkldkmdhaaDoorSumPlain
import Derived.Lib.Hide
import Derived.IntWalk
namespace Go.Proofs.YtkplekkldkmdhaaDoor
open Go Go.RowKit

theorem sumFrom_step (s : ByteArray) (k n : Nat) (h : k < s.size) : sumFrom n ((bl s).drop k) = sumFrom ((n * 263 + s[k].toNat + 1) % sM) ((bl s).drop (k + 1)) := by
  rw [drop_cons s k h]; rfl

set_option maxRecDepth 100000 in
theorem sumOf_any (s : ByteArray) (w : World) (hs : s.size ≤ 9223372036854775807) :
    Calls Tryd.prog 25 #[.string s] w fun e w' => e = .returned (.int .i64 (sumL (bl s) : Nat)) ∧ w = w' := by
  go_enter Tryd.func25, Tryd.ntmps25
  go_wp2
  go_loop [3, 7] (fun n i => ∃ k m : Nat, k ≤ s.size ∧ m < 1000000007 ∧ i = .int .i64 k ∧ n = .int .i64 m ∧ Hid (sumFrom m ((bl s).drop k) = sumL (bl s))) (fun _ i => s.size - (intOf i).toNat)
  case atStart => exact ⟨0, 0, Nat.zero_le _, by decide, rfl, rfl, rfl⟩
  case round =>
    obtain ⟨k, m, hk, hm, rfl, rfl, H⟩ := hrel
    by_cases hlt : k < s.size
    · have H2 : Hid (sumFrom ((m * 263 + s[k].toNat + 1) % sM) ((bl s).drop (k + 1)) = sumL (bl s)) := by
        show _ = _; rw [← sumFrom_step s k m hlt]; exact H.out
      have hb := s[k].toNat_lt
      clear H
      go_wp2
      go_round
      case rel => exact ⟨k + 1, (m * 263 + s[k].toNat + 1) % 1000000007, by omega, by omega, by go_num, by go_num, H2⟩
      case measure => simp [intOf]; omega
    · have e : sumFrom m ((bl s).drop k) = m := by rw [drop_nil s k (by omega)]; rfl
      have E := Lib.hid e; clear e
      go_wp2
      go_ret
      rw [← H.out, E.out]
      exact ⟨rfl, rfl⟩

/-- Is a number a sum? -/
def rightB (i : Int) : Bool := decide (0 ≤ i) && decide (i < 1000000007)
theorem rightB_iff (i : Int) : rightB i = true ↔ 0 ≤ i ∧ i < 1000000007 := by simp [rightB]

theorem right_any (i : Int) (w : World) : Calls Tryd.prog 57 #[.int .i64 i] w fun e w' => e = .returned (.bool (rightB i)) ∧ w = w' := by
  go_enter Tryd.func57, Tryd.ntmps57
  by_cases h0 : 0 ≤ i
  · by_cases h1 : i < 1000000007
    · have e : rightB i = true := (rightB_iff i).2 ⟨h0, h1⟩
      rw [e]; go_wp2; go_ret; exact ⟨rfl, rfl⟩
    · have e : rightB i = false := by simp [rightB, h1]
      rw [e]; go_wp2; go_ret; exact ⟨rfl, rfl⟩
  · have e : rightB i = false := by simp [rightB, h0]
    rw [e]; go_wp2; go_ret; exact ⟨rfl, rfl⟩

theorem isSum_any (i : Int) (w : World) : Calls Tryd.prog 59 #[.int .i64 i] w fun e w' => e = .returned (.bool (rightB i)) ∧ w = w' := by
  go_enter Tryd.func59, Tryd.ntmps59
  by_cases h0 : 0 ≤ i
  · by_cases h1 : i < 1000000007
    · have e : rightB i = true := (rightB_iff i).2 ⟨h0, h1⟩
      rw [e]; go_wp2; go_ret; exact ⟨rfl, rfl⟩
    · have e : rightB i = false := by simp [rightB, h1]
      rw [e]; go_wp2; go_ret; exact ⟨rfl, rfl⟩
  · have e : rightB i = false := by simp [rightB, h0]
    rw [e]; go_wp2; go_ret; exact ⟨rfl, rfl⟩

/-- The loop of power: what is told times what is left. -/
def PowInv (out x n N : Nat) : Prop := (out * x ^ n) % sM = powM N
theorem PowInv.odd {out x n N : Nat} (h : PowInv out x n N) (h1 : n % 2 = 1) : PowInv (out * x % sM) (x * x % sM) (n / 2) N := by
  unfold PowInv at h ⊢
  rw [Nat.mul_mod, pow_half x n, if_pos h1] at h
  rw [← h]
  rw [Nat.mul_comm ((x * x % sM) ^ (n / 2)) x, ← Nat.mul_mod, Nat.mod_mul_mod, Nat.mul_assoc]
theorem PowInv.even {out x n N : Nat} (h : PowInv out x n N) (h1 : ¬ n % 2 = 1) : PowInv out (x * x % sM) (n / 2) N := by
  unfold PowInv at h ⊢
  rw [Nat.mul_mod, pow_half x n, if_neg h1, Nat.mul_one, ← Nat.mul_mod] at h
  exact h
theorem PowInv.start (N : Nat) : PowInv 1 263 N N := by unfold PowInv powM; rw [Nat.one_mul]
theorem PowInv.end {out x N : Nat} (h : PowInv out x 0 N) (ho : out < sM) : out = powM N := by
  unfold PowInv at h; rw [Nat.pow_zero, Nat.mul_one, Nat.mod_eq_of_lt ho] at h; exact h

theorem mul_lt_mod (a b : Nat) (ha : a < 1000000007) (hb : b < 1000000007) : a * b < 1000000014000000050 := by
  have : a * b ≤ 1000000006 * 1000000006 := Nat.mul_le_mul (by omega) (by omega)
  omega
theorem mul_lt_int (a b : Nat) (ha : a < 1000000007) (hb : b < 1000000007) : 0 ≤ (a : Int) * (b : Int) ∧ (a : Int) * (b : Int) < 1000000014000000050 := by
  rw [← Int.natCast_mul]
  have := mul_lt_mod a b ha hb
  omega
theorem mul_mod_int (a b : Nat) : ((a : Int) * (b : Int)) % 1000000007 = ((a * b % sM : Nat) : Int) := by
  rw [← Int.natCast_mul]; rfl

set_option maxRecDepth 100000 in
theorem power_any (N : Nat) (w : World) (hN : N ≤ 1073741824) :
    Calls Tryd.prog 58 #[.int .i64 N] w fun e w' => e = .returned (.int .i64 (powM N : Nat)) ∧ w = w' := by
  go_enter Tryd.func58, Tryd.ntmps58
  go_wp2
  go_loop [0, 3, 4] (fun n o x => ∃ nn out xx : Nat, nn ≤ 1073741824 ∧ out < 1000000007 ∧ xx < 1000000007 ∧ n = .int .i64 nn ∧ o = .int .i64 out ∧ x = .int .i64 xx ∧ Hid (PowInv out xx nn N)) (fun n _ _ => (intOf n).toNat)
  case atStart => exact ⟨N, 1, 263, hN, by decide, by decide, rfl, rfl, rfl, PowInv.start N⟩
  case round =>
    obtain ⟨nn, out, xx, hn, ho, hx, rfl, rfl, rfl, H⟩ := hrel
    have hox := mul_lt_int out xx ho hx
    have hxx := mul_lt_int xx xx hx hx
    by_cases h0 : 0 < nn
    · by_cases h1 : nn % 2 = 1
      · have H2 := Lib.hid (H.out.odd h1)
        have hb : (((nn : Int) % 2) == 1) = true := by rw [beq_iff_eq]; omega
        have e1 := mul_mod_int out xx
        have e2 := mul_mod_int xx xx
        have l1 := Nat.mod_lt (out * xx) (show sM > 0 by decide)
        have l2 := Nat.mod_lt (xx * xx) (show sM > 0 by decide)
        generalize out * xx % sM = p at *
        generalize xx * xx % sM = q at *
        clear H
        go_wp2
        go_round
        case rel => exact ⟨nn / 2, p, q, by omega, by omega, by omega, by go_num, by go_num, by go_num, H2⟩
        case measure => simp [intOf]; omega
      · have H2 := Lib.hid (H.out.even h1)
        have hb : (((nn : Int) % 2) == 1) = false := by rw [beq_eq_false_iff_ne]; omega
        have e2 := mul_mod_int xx xx
        have l2 := Nat.mod_lt (xx * xx) (show sM > 0 by decide)
        generalize xx * xx % sM = q at *
        clear H
        go_wp2
        go_round
        case rel => exact ⟨nn / 2, out, q, by omega, by omega, by omega, by go_num, rfl, by go_num, H2⟩
        case measure => simp [intOf]; omega
    · have h00 : nn = 0 := by omega
      subst h00
      have E := Lib.hid (H.out.end ho)
      go_wp2
      go_ret
      rw [E.out]
      exact ⟨rfl, rfl⟩
end Go.Proofs.YtkplekkldkmdhaaDoor
