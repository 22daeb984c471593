/- The reference's sums by their contracts. -/
import Derived.Test.YtkplekkldkmdhaaDoorSumJoin
import Derived.Test.YtkplekkldkmdhaaDoorDecimal
namespace Go.Proofs.YtkplekkldkmdhaaDoor
open Go Go.RowKit

theorem sum_front (b : UInt8) (l : List UInt8) : sumL (b :: l) = (sumL l + powM l.length * (b.toNat + 1)) % sM := by
  have h : sumL ([b] ++ l) = joinN (sumL [b]) (sumL l) l.length := sumL_append [b] l
  have h1 : sumL [b] = b.toNat + 1 := by
    show (0 * 263 + b.toNat + 1) % sM = _
    have := b.toNat_lt
    rw [Nat.mod_eq_of_lt (by show _ < 1000000007; omega)]; omega
  rw [List.singleton_append] at h
  rw [h, joinN, h1, Nat.mul_comm, Nat.add_comm]
theorem pow_next (n : Nat) : powM (n + 1) = powM n * 263 % sM := by
  unfold powM; rw [Nat.pow_succ, Nat.mul_mod, Nat.mod_mul_mod]; simp [Nat.mul_mod]
theorem sum_front_at (s : ByteArray) (k : Nat) (h : k < s.size) : sumL ((bl s).drop k) = (sumL ((bl s).drop (k + 1)) + powM (s.size - (k + 1)) * (s[k].toNat + 1)) % sM := by
  rw [drop_cons s k h, sum_front, List.length_drop, bl_length]

theorem mul_byte (p b : Nat) (hp : p < 1000000007) (hb : b < 256) : 0 ≤ (p : Int) * ((b : Int) + 1) ∧ (p : Int) * ((b : Int) + 1) < 300000000000 := by
  have h : p * (b + 1) ≤ 1000000007 * 256 := Nat.mul_le_mul (by omega) (by omega)
  have e : (p : Int) * ((b : Int) + 1) = ((p * (b + 1) : Nat) : Int) := by rw [Int.natCast_mul, Int.natCast_add]; rfl
  rw [e]; omega

set_option maxHeartbeats 1000000 in
set_option maxRecDepth 100000 in
theorem refSumOf_any (s : ByteArray) (w : World) (hs : s.size ≤ 9223372036854775807) :
    Calls Tryd.prog 26 #[.string s] w fun e w' => e = .returned (.int .i64 (sumL (bl s) : Nat)) ∧ w = w' := by
  go_enter Tryd.func26, Tryd.ntmps26
  go_wp2
  go_loop [3, 4, 5] (fun nv pv iv => ∃ k m p : Nat, k ≤ s.size ∧ m < 1000000007 ∧ p < 1000000007 ∧ iv = .int .i64 ((k : Int) - 1) ∧ nv = .int .i64 m ∧ pv = .int .i64 p ∧ Hid (m = sumL ((bl s).drop k) ∧ p = powM (s.size - k))) (fun _ _ iv => (intOf iv + 1).toNat)
  case atStart => exact ⟨s.size, 0, 1, Nat.le_refl _, by decide, by decide, rfl, rfl, rfl, by rw [drop_nil s s.size (Nat.le_refl _)]; rfl, by rw [Nat.sub_self]; rfl⟩
  case round =>
    obtain ⟨k, m, p, hk, hm, hp, rfl, rfl, rfl, H⟩ := hrel
    by_cases h0 : 0 < k
    · obtain ⟨j, rfl⟩ : ∃ j, k = j + 1 := ⟨k - 1, by omega⟩
      have hj : j < s.size := by omega
      have HS : Hid ((m + p * (s[j].toNat + 1)) % sM = sumL ((bl s).drop j) ∧ p * 263 % sM = powM (s.size - j)) := by
        refine ⟨?_, ?_⟩
        · rw [H.out.1, H.out.2]; exact (sum_front_at s j hj).symm
        · rw [H.out.2, show s.size - j = s.size - (j + 1) + 1 by omega, pow_next]
      have hb := mul_byte p s[j].toNat hp s[j].toNat_lt
      have e1 : ((m : Int) + (p : Int) * ((s[j].toNat : Int) + 1)) % 1000000007 = (((m + p * (s[j].toNat + 1)) % sM : Nat) : Int) := by
        show _ = (((m + p * (s[j].toNat + 1)) % 1000000007 : Nat) : Int)
        rw [Int.natCast_emod, Int.natCast_add, Int.natCast_mul, Int.natCast_add]; rfl
      have l1 := Nat.mod_lt (m + p * (s[j].toNat + 1)) (show sM > 0 by decide)
      have ix : ∀ W : World, (Instr.index 9 (.string s) (.int .i64 (((j + 1 : Nat) : Int) - 1))).run Tryd.prog W = .ok (.int .u8 s[j].toNat) W := index_nat s _ j hj (by omega)
      generalize (m + p * (s[j].toNat + 1)) % sM = r at *
      clear H
      go_wp2
      have b8 := s[j].toNat_lt
      have g1 : wrap64 (s[j].toNat : Int) = (s[j].toNat : Int) := IntWalk.wrap64_in _ (by omega)
      have g2 : wrap64 ((s[j].toNat : Int) + 1) = (s[j].toNat : Int) + 1 := IntWalk.wrap64_in _ (by omega)
      generalize hz : (p : Int) * ((s[j].toNat : Int) + 1) = z at *
      have g3 : wrap64 z = z := IntWalk.wrap64_in _ (by omega)
      have g4 : wrap64 ((m : Int) + z) = (m : Int) + z := IntWalk.wrap64_in _ (by omega)
      have g5 : ((m : Int) + z).tmod 1000000007 = (r : Int) := by rw [Int.tmod_eq_emod_of_nonneg (by omega)]; exact e1
      rw [g1, g2, hz, g3, g4, g5]
      refine ⟨⟨j, r, p * 263 % 1000000007, by omega, l1, by omega, rfl, rfl, by go_num, HS⟩, ?_⟩
      simp [intOf]
    · have hk0 : k = 0 := by omega
      subst hk0
      have E := Lib.hid H.out.1
      clear H
      go_wp2
      go_ret
      rw [E.out]
      exact ⟨rfl, rfl⟩

set_option maxHeartbeats 1000000 in
set_option maxRecDepth 100000 in
theorem powerOf_any : ∀ (N : Nat) (w : World) (_ : N ≤ 1073741824),
    Calls Tryd.prog 60 #[.int .i64 N] w fun e w' => e = .returned (.int .i64 (powM N : Nat)) ∧ w = w' := by
  intro N
  induction N using Nat.strongRecOn with
  | _ N ih =>
    intro w hN
    by_cases h0 : N = 0
    · subst h0
      clear ih
      go_enter Tryd.func60, Tryd.ntmps60
      go_wp2_with fail
      go_ret
      exact ⟨rfl, rfl⟩
    · have q : (((N : Nat) : Int) == 0) = false := by rw [beq_eq_false_iff_ne]; omega
      have ih2 := ih (N / 2) (by omega) w (by omega)
      have hd := Nat.div_add_mod N 2
      have hpw := pow_half 263 N
      have hl := powM_lt (N / 2)
      have H1 := Lib.hid ih2
      have hsq := mul_lt_int (powM (N / 2)) (powM (N / 2)) hl hl
      have e1 := mul_mod_int (powM (N / 2)) (powM (N / 2))
      have l1 := Nat.mod_lt (powM (N / 2) * powM (N / 2)) (show sM > 0 by decide)
      have hev : ∀ x, x = powM (N / 2) * powM (N / 2) % sM → (N % 2 = 1 → x * 263 % sM = powM N) ∧ (¬ N % 2 = 1 → x = powM N) := by
        intro x hx
        have hh : x = 263 ^ (N / 2 + N / 2) % sM := by rw [hx, powM, Nat.pow_add, ← Nat.mul_mod]
        constructor
        · intro h1
          rw [hh, powM, Nat.mod_mul_mod, ← Nat.pow_succ]
          congr 2; omega
        · intro h1
          rw [hh, powM]; congr 2; omega
      have HE := Lib.hid (hev _ rfl)
      clear hev ih ih2 hpw hd
      generalize powM (N / 2) * powM (N / 2) % sM = x at *
      generalize powM (N / 2) = y at *
      have EP : Hid (((N : Int) / 2) = ((N / 2 : Nat) : Int)) := by show _ = _; omega
      by_cases h1 : N % 2 = 1
      · have F := Lib.hid (HE.out.1 h1)
        have q2 : (((N : Nat) : Int) % 2 == 1) = true := by rw [beq_iff_eq]; omega
        clear HE
        go_enter Tryd.func60, Tryd.ntmps60
        go_wp2_with fail
        refine (show Calls Tryd.prog _ #[.int .i64 ((N : Int) / 2)] w _ from by rw [EP.out]; exact H1.out).mono ?_
        rintro e w1 ⟨rfl, rfl⟩
        clear H1
        go_wp2_with fail
        go_ret
        refine ⟨?_, rfl⟩
        rw [← F.out]
        rfl
      · have F := Lib.hid (HE.out.2 h1)
        have q2 : (((N : Nat) : Int) % 2 == 1) = false := by rw [beq_eq_false_iff_ne]; omega
        clear HE
        go_enter Tryd.func60, Tryd.ntmps60
        go_wp2_with fail
        refine (show Calls Tryd.prog _ #[.int .i64 ((N : Int) / 2)] w _ from by rw [EP.out]; exact H1.out).mono ?_
        rintro e w1 ⟨rfl, rfl⟩
        clear H1
        go_wp2_with fail
        go_ret
        refine ⟨?_, rfl⟩
        show Ending.returned (.int .i64 ((y : Int) * (y : Int) % 1000000007)) = _
        rw [e1, F.out]

theorem refJoin_bad (a b n : Int) (h : joinBad a b n) (w : World) :
    Calls Tryd.prog 23 #[.int .i64 a, .int .i64 b, .int .i64 n] w fun e w' => e = .returned (.tuple #[.int .i64 0, .int .i64 2]) ∧ w = w' := by
  go_enter Tryd.func23, Tryd.ntmps23
  go_wp2_with fail
  refine (isSum_any _ _).mono ?_
  rintro e w1 ⟨rfl, rfl⟩
  go_wp2_with fail
  refine (isSum_any _ _).mono ?_
  rintro e w1 ⟨rfl, rfl⟩
  cases ha : rightB a with
  | false => clear h; go_wp2_with fail; go_ret2; exact ⟨rfl, rfl⟩
  | true =>
    cases hb : rightB b with
    | false => clear h; go_wp2_with fail; go_ret2; exact ⟨rfl, rfl⟩
    | true =>
      by_cases h0 : 0 ≤ n
      · have h1 : ¬ n ≤ 1073741824 := fun h1 => h ⟨ha, hb, h0, h1⟩
        clear h ha hb; go_wp2_with fail; go_ret2; exact ⟨rfl, rfl⟩
      · clear h ha hb; go_wp2_with fail; go_ret2; exact ⟨rfl, rfl⟩

set_option maxHeartbeats 1000000 in
set_option maxRecDepth 100000 in
theorem refJoin_ok (a b n : Nat) (ha : a < 1000000007) (hb : b < 1000000007) (hn : n ≤ 1073741824) (w : World) :
    Calls Tryd.prog 23 #[.int .i64 a, .int .i64 b, .int .i64 n] w fun e w' => e = .returned (.tuple #[.int .i64 (joinN a b n : Nat), .int .i64 0]) ∧ w = w' := by
  have ra : rightB a = true := (rightB_iff _).2 ⟨by omega, by omega⟩
  have rb : rightB b = true := (rightB_iff _).2 ⟨by omega, by omega⟩
  have hp := powM_lt n
  have hm := mul_lt_int a (powM n) ha hp
  have e1 : ((a : Int) * (powM n : Int) + (b : Int)) % 1000000007 = ((joinN a b n : Nat) : Int) := by
    unfold joinN; rw [← Int.natCast_mul, ← Int.natCast_add]; rfl
  have l1 := joinN_lt a b n
  have hpow := Lib.hid (fun w => powerOf_any n w hn)
  generalize joinN a b n = r at *
  generalize powM n = p at *
  clear hp
  have n0 : ¬ ((n : Int) < 0) := by omega
  have n1 : ¬ ((1073741824 : Int) < (n : Int)) := by omega
  clear hn
  generalize (n : Int) = ni at *
  have HM := Lib.hid hm
  have HE := Lib.hid e1
  have HL := Lib.hid l1
  clear hm e1 l1
  have HA := Lib.hid ha
  have HB := Lib.hid hb
  clear ha hb
  go_enter Tryd.func23, Tryd.ntmps23
  go_wp2_with fail
  refine (isSum_any _ _).mono ?_
  rintro e w1 ⟨rfl, rfl⟩
  rw [ra]; clear ra
  go_wp2_with fail
  refine (isSum_any _ _).mono ?_
  rintro e w1 ⟨rfl, rfl⟩
  rw [rb]; clear rb
  go_wp2_with fail
  refine (hpow.out _).mono ?_
  rintro e w1 ⟨rfl, rfl⟩
  clear hpow
  have hm := HM.out
  have ha := HA.out
  have hb := HB.out
  clear HA HB
  have e1 := HE.out
  have l1 := HL.out
  clear HM HE HL n0 n1
  have l2 : (r : Int) < 1000000007 := by omega
  have l3 : (0 : Int) ≤ (r : Int) := by omega
  have b1 : (b : Int) < 1000000007 := by omega
  have b2 : (0 : Int) ≤ (b : Int) := by omega
  clear l1 ha hb
  generalize (a : Int) = ai at *
  generalize (b : Int) = bi at *
  generalize (p : Int) = pi at *
  go_wp2_with fail
  go_ret2
  refine ⟨?_, rfl⟩
  show Ending.returned (.tuple #[.int .i64 ((ai * pi + bi) % 1000000007), .int .i64 0]) = _
  rw [e1]

theorem refText_ok (n : Nat) (hn : n < 1000000007) (w : World) :
    Calls Tryd.prog 28 #[.int .i64 n] w fun e w' => ∃ t : ByteArray, e = .returned (.string t) ∧ Hid (bl t = 115 :: Lib.decDigits n) ∧ Below w.heap.size w w' := by
  have ra : rightB n = true := (rightB_iff _).2 ⟨by omega, by omega⟩
  go_enter Tryd.func28, Tryd.ntmps28
  go_wp2_with fail
  refine (isSum_any _ _).mono ?_
  rintro e w1 ⟨rfl, rfl⟩
  rw [ra]
  go_wp2_with fail
  refine (decimal_any n (by omega) _).mono ?_
  rintro e w1 ⟨t, rfl, HT, hs, hb⟩
  go_wp2_with fail
  go_ret
  exact ⟨_, rfl, by show bl (_ ++ _) = _; rw [bl_append, HT.out]; rfl, hb⟩
theorem refText_bad (n : Int) (hn : rightB n = false) (w : World) :
    Calls Tryd.prog 28 #[.int .i64 n] w fun e w' => e = .returned (.string ⟨#[]⟩) ∧ w = w' := by
  go_enter Tryd.func28, Tryd.ntmps28
  go_wp2_with fail
  refine (isSum_any _ _).mono ?_
  rintro e w1 ⟨rfl, rfl⟩
  rw [hn]
  go_wp2_with fail
  go_ret
  exact ⟨rfl, rfl⟩
end Go.Proofs.YtkplekkldkmdhaaDoor
