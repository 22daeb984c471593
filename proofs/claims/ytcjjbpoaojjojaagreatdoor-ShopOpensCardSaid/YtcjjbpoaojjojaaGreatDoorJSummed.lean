/- sum.Of, Right, power and the reference's own, by their contracts. strconv.Atoi at any text; a number read back (for seats without package sum: the first half of XSumNum). sum.Number by its contract. sum.Join, Text, Read by their contracts. The reference's sums by their contracts. The reference's NumberOf, JoinSums, SumText, ReadSum by their contracts. sum.Read by its contract. The reference's ReadSum by its contract. -/
import Derived.Test.YtcjjbpoaojjojaaGreatDoorProg
import Derived.Test.YtcjjbpoaojjojaaGreatDoorJPlainly
import Derived.Lib.Hide
import Derived.IntWalk
import Derived.Test.YtcjjbpoaojjojaaGreatDoorJRowedEtc
import Derived.Test.YtcjjbpoaojjojaaGreatDoorJShelf
import Derived.Test.YtcjjbpoaojjojaaGreatDoorJErrors
import Derived.Deep.QuietTactic
import Derived.BigQuiet
namespace Go.Proofs.YtcjjbpoaojjojaaGreatDoor
open Go Go.RowKit

theorem sumFrom_step (s : ByteArray) (k n : Nat) (h : k < s.size) : sumFrom n ((bl s).drop k) = sumFrom ((n * 263 + s[k].toNat + 1) % sM) ((bl s).drop (k + 1)) := by
  rw [drop_cons s k h]; rfl

set_option maxRecDepth 100000 in
theorem sumOf_any (s : ByteArray) (w : World) (hs : s.size ≤ 9223372036854775807) :
    Calls Tryz.prog 74 #[.string s] w fun e w' => e = .returned (.int .i64 (sumL (bl s) : Nat)) ∧ w = w' := by
  go_enter Tryz.func74, Tryz.ntmps74
  go_wp2
  go_loop [3, 7] (fun n i => ∃ k m : Nat, k ≤ s.size ∧ m < 1000000007 ∧ i = .int .i64 k ∧ n = .int .i64 m ∧ Hid (sumFrom m ((bl s).drop k) = sumL (bl s))) (fun _ i => s.size - (intOf i).toNat)
  case atStart => exact ⟨0, 0, Nat.zero_le _, by decide, rfl, rfl, rfl⟩
  case round =>
    obtain ⟨k, m, hk, hm, rfl, rfl, H⟩ := hrel
    by_cases hlt : k < s.size
    · have H2 : Hid (sumFrom ((m * 263 + s[k].toNat + 1) % sM) ((bl s).drop (k + 1)) = sumL (bl s)) := by
        show _ = _; rw [← sumFrom_step s k m hlt]; exact H.out
      have hb := s[k].toNat_lt
      clear H
      go_wp2
      go_round
      case rel => exact ⟨k + 1, (m * 263 + s[k].toNat + 1) % 1000000007, by omega, by omega, by go_num, by go_num, H2⟩
      case measure => simp [intOf]; omega
    · have e : sumFrom m ((bl s).drop k) = m := by rw [drop_nil s k (by omega)]; rfl
      have E := Lib.hid e; clear e
      go_wp2
      go_ret
      rw [← H.out, E.out]
      exact ⟨rfl, rfl⟩

/-- Is a number a sum? -/
def rightB (i : Int) : Bool := decide (0 ≤ i) && decide (i < 1000000007)
theorem rightB_iff (i : Int) : rightB i = true ↔ 0 ≤ i ∧ i < 1000000007 := by simp [rightB]

theorem right_any (i : Int) (w : World) : Calls Tryz.prog 79 #[.int .i64 i] w fun e w' => e = .returned (.bool (rightB i)) ∧ w = w' := by
  go_enter Tryz.func79, Tryz.ntmps79
  by_cases h0 : 0 ≤ i
  · by_cases h1 : i < 1000000007
    · have e : rightB i = true := (rightB_iff i).2 ⟨h0, h1⟩
      rw [e]; go_wp2; go_ret; exact ⟨rfl, rfl⟩
    · have e : rightB i = false := by simp [rightB, h1]
      rw [e]; go_wp2; go_ret; exact ⟨rfl, rfl⟩
  · have e : rightB i = false := by simp [rightB, h0]
    rw [e]; go_wp2; go_ret; exact ⟨rfl, rfl⟩

theorem isSum_any (i : Int) (w : World) : Calls Tryz.prog 228 #[.int .i64 i] w fun e w' => e = .returned (.bool (rightB i)) ∧ w = w' := by
  go_enter Tryz.func228, Tryz.ntmps228
  by_cases h0 : 0 ≤ i
  · by_cases h1 : i < 1000000007
    · have e : rightB i = true := (rightB_iff i).2 ⟨h0, h1⟩
      rw [e]; go_wp2; go_ret; exact ⟨rfl, rfl⟩
    · have e : rightB i = false := by simp [rightB, h1]
      rw [e]; go_wp2; go_ret; exact ⟨rfl, rfl⟩
  · have e : rightB i = false := by simp [rightB, h0]
    rw [e]; go_wp2; go_ret; exact ⟨rfl, rfl⟩

/-- The loop of power: what is told times what is left. -/
def PowInv (out x n N : Nat) : Prop := (out * x ^ n) % sM = powM N
theorem PowInv.start (N : Nat) : PowInv 1 263 N N := by unfold PowInv powM; rw [Nat.one_mul]
theorem PowInv.end {out x N : Nat} (h : PowInv out x 0 N) (ho : out < sM) : out = powM N := by
  unfold PowInv at h; rw [Nat.pow_zero, Nat.mul_one, Nat.mod_eq_of_lt ho] at h; exact h

end Go.Proofs.YtcjjbpoaojjojaaGreatDoor

namespace Go.Proofs.YtcjjbpoaojjojaaGreatDoor
open Go Go.RowKit

/-- The library's two variables of errors that strconv.Atoi reads hold errors. -/
def ErrIn (w : World) (g : Nat) : Prop := ∃ ev, w.cell? ⟨g, 0, none⟩ = some ev ∧ (ev = .nilIface ∨ ∃ te pe, ev = .iface te pe)
def AtoiEnv (w : World) : Prop := ErrIn w 15 ∧ ErrIn w 16
theorem ErrIn.ext {w w' : World} {g : Nat} (h : ErrIn w g) (hb : Below w.heap.size w w') : ErrIn w' g := by
  obtain ⟨ev, h1, h2⟩ := h
  exact ⟨ev, (hb.cell (show (⟨g, 0, none⟩ : Addr).block < w.heap.size from Lib.lt_of_cell h1)).trans h1, h2⟩
theorem AtoiEnv.ext {w w' : World} (h : AtoiEnv w) (hb : Below w.heap.size w w') : AtoiEnv w' := ⟨h.1.ext hb, h.2.ext hb⟩

/-- strconv.Atoi at any text. -/
theorem atoi_any (s : ByteArray) (w : World) (hs : s.size ≤ 281474976710656) (ha : AtoiEnv w) :
    Calls Tryz.prog 169 #[.string s] w fun e w' => (∃ v : Int, e = .returned (.tuple #[.int .i64 v, .nilIface]) ∧ Hid (Lib.atoiAll (bl s) = .ok v) ∧ Below w.heap.size w w') ∨
      (∃ (v : Int) (te : TypeId) (a : Value), e = .returned (.tuple #[.int .i64 v, .iface te a]) ∧ Hid (∀ n, Lib.atoiAll (bl s) ≠ .ok n) ∧ Below w.heap.size w w') := by
  obtain ⟨⟨e1, h1, h2⟩, ⟨e3, h3, h4⟩⟩ := ha
  rcases h : Lib.atoiAll s.data.toList with v | _ | _
  · refine (Any.strconv_Atoi_ok Tryz.laysC172 s (by omega) v h w).mono ?_
    rintro e w' ⟨rfl, hw⟩
    refine .inl ⟨v, rfl, h, ?_⟩
    rcases hw with rfl | ⟨t, rfl⟩
    · exact Below.refl _ _
    · exact Lib.bytesWorld_below _ _ _
  · refine (Any.strconv_Atoi_syntax Tryz.laysC172 s hs h e1 w h1 h2).mono ?_
    rintro e w' ⟨N, rfl, _, _, hb⟩
    exact .inr ⟨_, _, _, rfl, fun n hn => (by rw [show bl s = s.data.toList from rfl, h] at hn; cases hn), hb⟩
  · refine (Any.strconv_Atoi_range Tryz.laysC172 s hs h e3 w h3 h4).mono ?_
    rintro e w' ⟨N, rfl, _, _, hb⟩
    exact .inr ⟨_, _, _, rfl, fun n hn => (by rw [show bl s = s.data.toList from rfl, h] at hn; cases hn), hb⟩

theorem str_same (s t : ByteArray) (h : t = s) : (t.toList == s.toList) = true := by rw [h]; exact beq_self_eq_true _
theorem str_other (s t : ByteArray) (h : ¬ t = s) : (t.toList == s.toList) = false :=
  beq_eq_false_iff_ne.2 fun e => h (bl_inj (by rwa [Lib.toList_data, Lib.toList_data] at e))

theorem num_no {l : List UInt8} {most : Nat} (hm : most ≤ 18) (h : ∀ m : Nat, l = Lib.decDigits m → l.length ≤ most → Lib.atoiAll l = .ok (m : Int) → False) : numOf l most = none := by
  cases hn : numOf l most with
  | none => rfl
  | some m =>
    obtain ⟨h1, h2⟩ := numOf_some hn
    exact (h m h1 h2 (by rw [h1]; exact atoi_dec m (by rw [← h1]; omega))).elim

end Go.Proofs.YtcjjbpoaojjojaaGreatDoor

namespace Go.Proofs.YtcjjbpoaojjojaaGreatDoor
open Go Go.RowKit

/-- What Number answers. -/
def NumTold (o : Option Nat) (n : Int) (ok : Bool) : Prop := (∃ m : Nat, o = some m ∧ n = m ∧ ok = true) ∨ (o = none ∧ ok = false)

def NumPost (s : ByteArray) (most : Nat) (w : World) (e : Ending) (w' : World) : Prop :=
  ∃ (n : Int) (ok : Bool), e = .returned (.tuple #[.int .i64 n, .bool ok]) ∧ Hid (NumTold (numOf (bl s) most) n ok) ∧ Below w.heap.size w w'

set_option maxHeartbeats 1000000 in
set_option maxRecDepth 100000 in
theorem sumNumber_any (s : ByteArray) (most : Nat) (hm : most ≤ 18) (w : World) (hs : s.size ≤ 281474976710656) (ha : AtoiEnv w) (ht : PowTab w) :
    Calls Tryz.prog 94 #[.string s, .int .i64 most] w (NumPost s most w) := by
  go_enter Tryz.func94, Tryz.ntmps94
  go_wp2_with fail
  refine (atoi_any s w hs ha).mono ?_
  rintro e w1 (⟨v, rfl, HV, hb⟩ | ⟨v, te, a, rfl, HV, hb⟩)
  · have hT1 := ht.ext hb
    have hv1 : v ≤ 9223372036854775807 := (Lib.atoiAll_bounds HV.out).2
    clear ha ht
    by_cases hl : s.size ≤ most
    · by_cases hv : 0 ≤ v
      · obtain ⟨n, rfl⟩ : ∃ n : Nat, v = n := ⟨v.toNat, by omega⟩
        go_wp2_with fail
        refine (itoa_any n (by omega) w1 hT1).mono ?_
        rintro e w2 ⟨t, rfl, HT, _, hb2⟩
        have hbb := hb.trans (hb2.mono hb.size)
        clear hb hb2 hT1
        by_cases hts : t = s
        · have q : (t.toList == s.toList) = true := str_same s t hts
          go_wp2_with fail
          go_ret2
          refine ⟨_, _, rfl, ?_, hbb⟩
          have : bl s = Lib.decDigits n := by rw [← hts]; exact HT.out
          exact .inl ⟨n, by rw [this]; exact numOf_dec n most (by rw [← this, bl_length]; exact hl), rfl, rfl⟩
        · have q : (t.toList == s.toList) = false := str_other s t hts
          go_wp2_with fail
          go_ret2
          refine ⟨_, _, rfl, .inr ⟨num_no hm fun m h1 h2 h3 => hts ?_, rfl⟩, hbb⟩
          have h4 := HV.out
          rw [h3] at h4
          have h5 : (m : Int) = n := by injection h4
          have h6 : m = n := by omega
          rw [h6] at h1
          exact bl_inj (by rw [HT.out, h1])
      · have H : Hid (numOf (bl s) most = none) := num_no hm fun m h1 h2 h3 => by
          have h4 := HV.out
          rw [h3] at h4
          have h5 : (m : Int) = v := by injection h4
          omega
        go_wp2_with fail
        go_ret2
        exact ⟨_, _, rfl, .inr ⟨H.out, rfl⟩, hb⟩
    · have H : Hid (numOf (bl s) most = none) := num_no hm fun m h1 h2 h3 => by rw [bl_length] at h2; omega
      go_wp2_with fail
      go_ret2
      exact ⟨_, _, rfl, .inr ⟨H.out, rfl⟩, hb⟩
  · have H : Hid (numOf (bl s) most = none) := num_no hm fun m h1 h2 h3 => HV.out _ h3
    go_wp2_with fail
    go_ret2
    exact ⟨_, _, rfl, .inr ⟨H.out, rfl⟩, hb⟩
end Go.Proofs.YtcjjbpoaojjojaaGreatDoor

namespace Go.Proofs.YtcjjbpoaojjojaaGreatDoor
open Go Go.RowKit

theorem len_s (t : ByteArray) (h : t.size ≤ 21) : ((⟨#[115]⟩ : ByteArray) ++ t).size ≤ 22 := by
  have : (bl ((⟨#[115]⟩ : ByteArray) ++ t)).length = 1 + (bl t).length := by rw [bl_append, List.length_append]; rfl
  rw [bl_length, bl_length] at this; omega
theorem sumText_ok (n : Nat) (hn : n < 1000000007) (w : World) (ht : PowTab w) :
    Calls Tryz.prog 125 #[.int .i64 n] w fun e w' => ∃ t : ByteArray, e = .returned (.string t) ∧ Hid (bl t = 115 :: Lib.decDigits n) ∧ t.size ≤ 22 ∧ Below w.heap.size w w' := by
  have ra : rightB n = true := (rightB_iff _).2 ⟨by omega, by omega⟩
  go_enter Tryz.func125, Tryz.ntmps125
  go_wp2_with fail
  refine (right_any _ _).mono ?_
  rintro e w1 ⟨rfl, rfl⟩
  rw [ra]
  go_wp2_with fail
  refine (itoa_any n (by omega) _ ht).mono ?_
  rintro e w1 ⟨t, rfl, HT, hs, hb⟩
  go_wp2_with fail
  go_ret
  exact ⟨_, rfl, by show bl (_ ++ _) = _; rw [bl_append, HT.out]; rfl, len_s t hs, hb⟩
/-- The sum that a text tells. -/
def readS (l : List UInt8) : Option Nat := if l.head? = some 115 then (numOf l.tail 10).bind fun n => if n < 1000000007 then some n else none else none

def ReadPost (s : ByteArray) (v0 : Value) (w : World) (e : Ending) (w' : World) : Prop :=
  (∃ n : Nat, e = .returned (.tuple #[.int .i64 n, .nilIface]) ∧ Hid (readS (bl s) = some n) ∧ n < 1000000007 ∧ Below w.heap.size w w') ∨
  (e = .returned (.tuple #[.int .i64 0, v0]) ∧ Hid (readS (bl s) = none) ∧ Below w.heap.size w w')
end Go.Proofs.YtcjjbpoaojjojaaGreatDoor

namespace Go.Proofs.YtcjjbpoaojjojaaGreatDoor
open Go Go.RowKit

theorem sum_front (b : UInt8) (l : List UInt8) : sumL (b :: l) = (sumL l + powM l.length * (b.toNat + 1)) % sM := by
  have h : sumL ([b] ++ l) = joinN (sumL [b]) (sumL l) l.length := sumL_append [b] l
  have h1 : sumL [b] = b.toNat + 1 := by
    show (0 * 263 + b.toNat + 1) % sM = _
    have := b.toNat_lt
    rw [Nat.mod_eq_of_lt (by show _ < 1000000007; omega)]; omega
  rw [List.singleton_append] at h
  rw [h, joinN, h1, Nat.mul_comm, Nat.add_comm]
theorem pow_next (n : Nat) : powM (n + 1) = powM n * 263 % sM := by
  unfold powM; rw [Nat.pow_succ, Nat.mul_mod, Nat.mod_mul_mod]; simp [Nat.mul_mod]
theorem sum_front_at (s : ByteArray) (k : Nat) (h : k < s.size) : sumL ((bl s).drop k) = (sumL ((bl s).drop (k + 1)) + powM (s.size - (k + 1)) * (s[k].toNat + 1)) % sM := by
  rw [drop_cons s k h, sum_front, List.length_drop, bl_length]

theorem mul_byte (p b : Nat) (hp : p < 1000000007) (hb : b < 256) : 0 ≤ (p : Int) * ((b : Int) + 1) ∧ (p : Int) * ((b : Int) + 1) < 300000000000 := by
  have h : p * (b + 1) ≤ 1000000007 * 256 := Nat.mul_le_mul (by omega) (by omega)
  have e : (p : Int) * ((b : Int) + 1) = ((p * (b + 1) : Nat) : Int) := by rw [Int.natCast_mul, Int.natCast_add]; rfl
  rw [e]; omega

set_option maxHeartbeats 1000000 in
set_option maxRecDepth 100000 in
theorem refSumOf_any (s : ByteArray) (w : World) (hs : s.size ≤ 9223372036854775807) :
    Calls Tryz.prog 231 #[.string s] w fun e w' => e = .returned (.int .i64 (sumL (bl s) : Nat)) ∧ w = w' := by
  go_enter Tryz.func231, Tryz.ntmps231
  go_wp2
  go_loop [3, 4, 5] (fun nv pv iv => ∃ k m p : Nat, k ≤ s.size ∧ m < 1000000007 ∧ p < 1000000007 ∧ iv = .int .i64 ((k : Int) - 1) ∧ nv = .int .i64 m ∧ pv = .int .i64 p ∧ Hid (m = sumL ((bl s).drop k) ∧ p = powM (s.size - k))) (fun _ _ iv => (intOf iv + 1).toNat)
  case atStart => exact ⟨s.size, 0, 1, Nat.le_refl _, by decide, by decide, rfl, rfl, rfl, by rw [drop_nil s s.size (Nat.le_refl _)]; rfl, by rw [Nat.sub_self]; rfl⟩
  case round =>
    obtain ⟨k, m, p, hk, hm, hp, rfl, rfl, rfl, H⟩ := hrel
    by_cases h0 : 0 < k
    · obtain ⟨j, rfl⟩ : ∃ j, k = j + 1 := ⟨k - 1, by omega⟩
      have hj : j < s.size := by omega
      have HS : Hid ((m + p * (s[j].toNat + 1)) % sM = sumL ((bl s).drop j) ∧ p * 263 % sM = powM (s.size - j)) := by
        refine ⟨?_, ?_⟩
        · rw [H.out.1, H.out.2]; exact (sum_front_at s j hj).symm
        · rw [H.out.2, show s.size - j = s.size - (j + 1) + 1 by omega, pow_next]
      have hb := mul_byte p s[j].toNat hp s[j].toNat_lt
      have e1 : ((m : Int) + (p : Int) * ((s[j].toNat : Int) + 1)) % 1000000007 = (((m + p * (s[j].toNat + 1)) % sM : Nat) : Int) := by
        show _ = (((m + p * (s[j].toNat + 1)) % 1000000007 : Nat) : Int)
        rw [Int.natCast_emod, Int.natCast_add, Int.natCast_mul, Int.natCast_add]; rfl
      have l1 := Nat.mod_lt (m + p * (s[j].toNat + 1)) (show sM > 0 by decide)
      have ix : ∀ W : World, (Instr.index 9 (.string s) (.int .i64 (((j + 1 : Nat) : Int) - 1))).run Tryz.prog W = .ok (.int .u8 s[j].toNat) W := index_nat s _ j hj (by omega)
      generalize (m + p * (s[j].toNat + 1)) % sM = r at *
      clear H
      go_wp2
      have b8 := s[j].toNat_lt
      have g1 : wrap64 (s[j].toNat : Int) = (s[j].toNat : Int) := IntWalk.wrap64_in _ (by omega)
      have g2 : wrap64 ((s[j].toNat : Int) + 1) = (s[j].toNat : Int) + 1 := IntWalk.wrap64_in _ (by omega)
      generalize hz : (p : Int) * ((s[j].toNat : Int) + 1) = z at *
      have g3 : wrap64 z = z := IntWalk.wrap64_in _ (by omega)
      have g4 : wrap64 ((m : Int) + z) = (m : Int) + z := IntWalk.wrap64_in _ (by omega)
      have g5 : ((m : Int) + z).tmod 1000000007 = (r : Int) := by rw [Int.tmod_eq_emod_of_nonneg (by omega)]; exact e1
      rw [g1, g2, hz, g3, g4, g5]
      refine ⟨⟨j, r, p * 263 % 1000000007, by omega, l1, by omega, rfl, rfl, by go_num, HS⟩, ?_⟩
      simp [intOf]
    · have hk0 : k = 0 := by omega
      subst hk0
      have E := Lib.hid H.out.1
      clear H
      go_wp2
      go_ret
      rw [E.out]
      exact ⟨rfl, rfl⟩

end Go.Proofs.YtcjjbpoaojjojaaGreatDoor

namespace Go.Proofs.YtcjjbpoaojjojaaGreatDoor
open Go Go.RowKit

def numI (o : Option Nat) : Int := match o with
  | some v => v
  | none => -1

theorem take_next (s : ByteArray) (k : Nat) (h : k < s.size) : (bl s).take (k + 1) = (bl s).take k ++ [s[k]'h] := by
  have hk : k < (bl s).length := by rw [bl_length]; exact h
  rw [List.take_add_one, List.getElem?_eq_getElem hk]; rfl
theorem valD_snoc (l : List UInt8) (c : UInt8) : valD 0 (l ++ [c]) = 10 * valD 0 l + (c.toNat - 48) := by simp [valD]

theorem numOf_not (l : List UInt8) (most : Nat) (h : ∀ n, l ≠ Lib.decDigits n) : numOf l most = none := by
  cases hn : numOf l most with
  | none => rfl
  | some m => exact absurd (numOf_some hn).1 (h m)
theorem head_zero (n : Nat) (h : (Lib.decDigits n).head? = some 48) : n = 0 := by
  rcases Nat.eq_zero_or_pos n with h0 | h0
  · exact h0
  · exact absurd rfl (decDigits_head n h0 48 h)
theorem decDigits_zero : Lib.decDigits 0 = [48] := decDigits_small (by decide)

set_option maxHeartbeats 1000000 in
set_option maxRecDepth 100000 in
theorem numberOf_any (s : ByteArray) (most : Nat) (hm : most ≤ 18) (w : World) (hs : s.size ≤ 281474976710656) :
    Calls Tryz.prog 106 #[.string s, .int .i64 most] w fun e w' => e = .returned (.int .i64 (numI (numOf (bl s) most))) ∧ w = w' := by
  by_cases h0 : s.size < 1
  · have HN : Hid (numOf (bl s) most = none) := numOf_not _ _ fun n h => by
      have h1 := bl_length s
      rw [h] at h1
      have := List.length_pos_iff.2 (decDigits_ne n)
      omega
    go_enter Tryz.func106, Tryz.ntmps106
    go_wp2_with fail
    go_ret
    rw [HN.out]; exact ⟨rfl, rfl⟩
  · by_cases h1 : (most : Int) < (s.size : Int)
    · have HN : Hid (numOf (bl s) most = none) := by
        show _ = _; unfold numOf; rw [if_neg (fun h => by have := h.1; rw [bl_length] at this; omega)]
      go_enter Tryz.func106, Tryz.ntmps106
      go_wp2_with fail
      go_ret
      rw [HN.out]; exact ⟨rfl, rfl⟩
    · have hs0 : 0 < s.size := by omega
      have i0 : ∀ W : World, (Instr.index 9 (.string s) (.int .i64 0)).run Tryz.prog W = .ok (.int .u8 (s[0]'hs0).toNat) W := index_nat s 0 0 hs0 rfl
      have hh : (bl s).head? = some (s[0]'hs0) := by
        have := drop_cons s 0 (by omega)
        rw [List.drop_zero] at this; rw [this]; rfl
      have HH := Lib.hid hh
      clear hh
      by_cases hz : 1 < s.size ∧ (s[0]'hs0).toNat = 48
      · have HN : Hid (numOf (bl s) most = none) := numOf_not _ _ fun n h => by
          have h2 : (Lib.decDigits n).head? = some 48 := by rw [← h, HH.out]; congr 1; exact UInt8.toNat_inj.1 hz.2
          have h3 := head_zero n h2
          rw [h3, decDigits_zero] at h
          have h4 := congrArg List.length h
          rw [bl_length] at h4
          have : s.size = 1 := h4
          omega
        have z1 : (1 : Int) < (s.size : Int) := by omega
        have z2 : (((s[0]'hs0).toNat : Int) == 48) = true := by rw [beq_iff_eq]; omega
        clear hz
        go_enter Tryz.func106, Tryz.ntmps106
        go_wp2_with fail
        go_ret
        rw [HN.out]; exact ⟨rfl, rfl⟩
      · have HF : Hid ((∀ c ∈ bl s, isD c) → numI (numOf (bl s) most) = (valD 0 (bl s) : Int)) := fun hd => by
          have h5 := dec_of (bl s) hd (fun h => by have := bl_length s; rw [h] at this; simp at this; omega) (fun c hc hl => by
            rw [HH.out] at hc
            obtain rfl := Option.some.inj hc
            rw [bl_length] at hl
            exact fun h48 => hz ⟨hl, h48⟩)
          unfold numOf
          rw [if_pos ⟨by rw [bl_length]; omega, h5⟩]; rfl
        have HG : Hid (∀ c ∈ bl s, ¬ isD c → numOf (bl s) most = none) := fun c hc hn => numOf_not _ _ fun n h => by
          rw [h] at hc; exact hn (decDigits_isD n c hc)
        have hsm : s.size ≤ 18 := by omega
        have LP : ∀ Z : Prop, Z → Z := fun _ h => h
        clear LP
        by_cases hz1 : 1 < s.size
        · have z1 : (1 : Int) < (s.size : Int) := by omega
          have z2 : (((s[0]'hs0).toNat : Int) == 48) = false := by rw [beq_eq_false_iff_ne]; intro h; exact hz ⟨hz1, by omega⟩
          clear hz
          go_enter Tryz.func106, Tryz.ntmps106
          go_wp2_with fail
          clear i0 z2
          go_loop [5, 6] (fun nv iv => ∃ k m : Nat, k ≤ s.size ∧ m < 10 ^ k ∧ iv = .int .i64 k ∧ nv = .int .i64 m ∧ Hid (m = valD 0 ((bl s).take k) ∧ ∀ c ∈ (bl s).take k, isD c)) (fun _ iv => s.size - (intOf iv).toNat)
          case atStart => exact ⟨0, 0, Nat.zero_le _, by decide, rfl, rfl, rfl, fun c hc => by cases hc⟩
          case round =>
            obtain ⟨k, m, hk, hmk, rfl, rfl, H⟩ := hrel
            by_cases hlt : k < s.size
            · have ix : ∀ W : World, (Instr.index 9 (.string s) (.int .i64 (k : Int))).run Tryz.prog W = .ok (.int .u8 (s[k]'hlt).toNat) W := index_nat s k k hlt rfl
              have hmem : (s[k]'hlt) ∈ bl s := by
                have := drop_cons s k hlt
                exact List.mem_of_mem_drop (by rw [this]; exact List.mem_cons_self)
              have hp : 10 ^ k ≤ 10 ^ 17 := Nat.pow_le_pow_right (by decide) (by omega)
              have hm17 : m < 100000000000000000 := Nat.lt_of_lt_of_le hmk hp
              clear hp
              by_cases d0 : 48 ≤ (s[k]'hlt).toNat
              · by_cases d1 : (s[k]'hlt).toNat ≤ 57
                · have H2 : Hid (10 * m + ((s[k]'hlt).toNat - 48) = valD 0 ((bl s).take (k + 1)) ∧ ∀ c ∈ (bl s).take (k + 1), isD c) := by
                    refine ⟨?_, ?_⟩
                    · rw [take_next s k hlt, valD_snoc, ← H.out.1]
                    · rw [take_next s k hlt]; intro c hc
                      rcases List.mem_append.1 hc with hc | hc
                      · exact H.out.2 c hc
                      · obtain rfl := List.mem_singleton.1 hc; exact ⟨d0, d1⟩
                  have hmk2 : 10 * m + ((s[k]'hlt).toNat - 48) < 10 ^ (k + 1) := by rw [Nat.pow_succ]; omega
                  have HK := Lib.hid hmk2
                  clear H hmk hmk2 hmem
                  go_wp2_with fail
                  go_round
                  case rel => exact ⟨k + 1, 10 * m + ((s[k]'hlt).toNat - 48), by omega, HK.out, by go_num, by go_num, H2⟩
                  case measure => simp [intOf]; omega
                · have HN := Lib.hid (HG.out _ hmem fun h => d1 h.2)
                  clear hmk
                  go_wp2_with fail
                  go_ret
                  rw [HN.out]; exact ⟨rfl, rfl⟩
              · have HN := Lib.hid (HG.out _ hmem fun h => d0 h.1)
                clear hmk
                go_wp2_with fail
                go_ret
                rw [HN.out]; exact ⟨rfl, rfl⟩
            · have HE : Hid (numI (numOf (bl s) most) = (m : Int)) := by
                have e : (bl s).take k = bl s := List.take_of_length_le (by rw [bl_length]; omega)
                have h6 := H.out
                rw [e] at h6
                show _ = _
                rw [h6.1]; exact HF.out h6.2
              clear hmk
              go_wp2_with fail
              go_ret
              rw [HE.out]; exact ⟨rfl, rfl⟩
        · clear hz
          go_enter Tryz.func106, Tryz.ntmps106
          go_wp2_with fail
          clear i0
          go_loop [5, 6] (fun nv iv => ∃ k m : Nat, k ≤ s.size ∧ m < 10 ^ k ∧ iv = .int .i64 k ∧ nv = .int .i64 m ∧ Hid (m = valD 0 ((bl s).take k) ∧ ∀ c ∈ (bl s).take k, isD c)) (fun _ iv => s.size - (intOf iv).toNat)
          case atStart => exact ⟨0, 0, Nat.zero_le _, by decide, rfl, rfl, rfl, fun c hc => by cases hc⟩
          case round =>
            obtain ⟨k, m, hk, hmk, rfl, rfl, H⟩ := hrel
            by_cases hlt : k < s.size
            · have ix : ∀ W : World, (Instr.index 9 (.string s) (.int .i64 (k : Int))).run Tryz.prog W = .ok (.int .u8 (s[k]'hlt).toNat) W := index_nat s k k hlt rfl
              have hmem : (s[k]'hlt) ∈ bl s := by
                have := drop_cons s k hlt
                exact List.mem_of_mem_drop (by rw [this]; exact List.mem_cons_self)
              have hp : 10 ^ k ≤ 10 ^ 17 := Nat.pow_le_pow_right (by decide) (by omega)
              have hm17 : m < 100000000000000000 := Nat.lt_of_lt_of_le hmk hp
              clear hp
              by_cases d0 : 48 ≤ (s[k]'hlt).toNat
              · by_cases d1 : (s[k]'hlt).toNat ≤ 57
                · have H2 : Hid (10 * m + ((s[k]'hlt).toNat - 48) = valD 0 ((bl s).take (k + 1)) ∧ ∀ c ∈ (bl s).take (k + 1), isD c) := by
                    refine ⟨?_, ?_⟩
                    · rw [take_next s k hlt, valD_snoc, ← H.out.1]
                    · rw [take_next s k hlt]; intro c hc
                      rcases List.mem_append.1 hc with hc | hc
                      · exact H.out.2 c hc
                      · obtain rfl := List.mem_singleton.1 hc; exact ⟨d0, d1⟩
                  have hmk2 : 10 * m + ((s[k]'hlt).toNat - 48) < 10 ^ (k + 1) := by rw [Nat.pow_succ]; omega
                  have HK := Lib.hid hmk2
                  clear H hmk hmk2 hmem
                  go_wp2_with fail
                  go_round
                  case rel => exact ⟨k + 1, 10 * m + ((s[k]'hlt).toNat - 48), by omega, HK.out, by go_num, by go_num, H2⟩
                  case measure => simp [intOf]; omega
                · have HN := Lib.hid (HG.out _ hmem fun h => d1 h.2)
                  clear hmk
                  go_wp2_with fail
                  go_ret
                  rw [HN.out]; exact ⟨rfl, rfl⟩
              · have HN := Lib.hid (HG.out _ hmem fun h => d0 h.1)
                clear hmk
                go_wp2_with fail
                go_ret
                rw [HN.out]; exact ⟨rfl, rfl⟩
            · have HE : Hid (numI (numOf (bl s) most) = (m : Int)) := by
                have e : (bl s).take k = bl s := List.take_of_length_le (by rw [bl_length]; omega)
                have h6 := H.out
                rw [e] at h6
                show _ = _
                rw [h6.1]; exact HF.out h6.2
              clear hmk
              go_wp2_with fail
              go_ret
              rw [HE.out]; exact ⟨rfl, rfl⟩
end Go.Proofs.YtcjjbpoaojjojaaGreatDoor

namespace Go.Proofs.YtcjjbpoaojjojaaGreatDoor
open Go Go.RowKit

theorem cut_yes (l : List UInt8) (h : l.head? = some 115) : Lib.hasPrefix l [115] = true ∧ Lib.trimPrefix l [115] = l.tail := by
  cases l with
  | nil => cases h
  | cons c r =>
    simp only [List.head?_cons, Option.some.injEq] at h
    subst h
    constructor
    · simp [Lib.hasPrefix]
    · simp [Lib.trimPrefix, Lib.hasPrefix]
theorem cut_no (l : List UInt8) (h : ¬ l.head? = some 115) : Lib.hasPrefix l [115] = false := by
  cases l with
  | nil => rfl
  | cons c r =>
    simp only [List.head?_cons, Option.some.injEq] at h
    show ((115 : UInt8) == c && List.isPrefixOf [] r) = false
    rw [show ((115 : UInt8) == c) = false from beq_eq_false_iff_ne.2 fun e => h e.symm]; rfl

theorem cut_any (s : ByteArray) (w : World) : Calls Tryz.prog 223 #[.string s, .string ⟨#[115]⟩] w fun e w' =>
    (∃ d : ByteArray, e = .returned (.tuple #[.string d, .bool (Lib.hasPrefix (bl s) [115])]) ∧ Hid (bl d = Lib.trimPrefix (bl s) [115]) ∧ d.size ≤ s.size) ∧ w' = w := by
  refine (Tryz.strings_CutPrefix s ⟨#[115]⟩ w).mono ?_
  rintro e w' ⟨rfl, rfl⟩
  refine ⟨⟨_, rfl, rfl, ?_⟩, rfl⟩
  show (Lib.trimPrefix s.data.toList [115]).toArray.size ≤ _
  rw [List.size_toArray]
  have : (bl s).length = s.size := bl_length s
  by_cases h : (bl s).head? = some 115
  · rw [show s.data.toList = bl s from rfl, (cut_yes _ h).2, List.length_tail]; omega
  · have h2 := cut_no _ h
    rw [show s.data.toList = bl s from rfl]
    simp [Lib.trimPrefix, h2, this]

set_option maxHeartbeats 1000000 in
set_option maxRecDepth 100000 in
theorem sumRead_any (s : ByteArray) (v0 : Value) (w : World) (hs : s.size ≤ 281474976710656) (ha : AtoiEnv w) (ht : PowTab w) (hv : w.cell? ⟨6, 0, none⟩ = some v0) :
    Calls Tryz.prog 165 #[.string s] w (ReadPost s v0 w) := by
  go_enter Tryz.func165, Tryz.ntmps165
  go_wp2_with fail
  refine (cut_any s w).mono ?_
  rintro e w1 ⟨⟨d, rfl, HD, hd⟩, rfl⟩
  have hg : 6 < w1.heap.size := Lib.lt_of_cell hv
  by_cases hp : (bl s).head? = some 115
  · have hpp := cut_yes _ hp
    have HT : Hid (bl d = (bl s).tail) := by show _ = _; rw [HD.out, hpp.2]
    rw [hpp.1]
    clear HD hpp
    go_wp2_with fail
    refine (sumNumber_any d 10 (by decide) w1 (by omega) ha ht).mono ?_
    rintro e w2 ⟨n, ok, rfl, HN, hb⟩
    have hv2 := (hb.cell (show (⟨6, 0, none⟩ : Addr).block < w1.heap.size from hg)).trans hv
    clear hv ha ht
    rcases HN.out with ⟨m, hm, rfl, rfl⟩ | ⟨hn, rfl⟩
    · by_cases hr : m < 1000000007
      · have ra : rightB m = true := (rightB_iff _).2 ⟨by omega, by omega⟩
        have HR : Hid (readS (bl s) = some m) := by show _ = _; unfold readS; rw [if_pos hp, ← HT.out, hm]; show (if _ then _ else _) = _; rw [if_pos hr]
        clear HN hm
        go_wp2_with fail
        refine (right_any _ _).mono ?_
        rintro e w1 ⟨rfl, rfl⟩
        rw [ra]; clear ra
        go_wp2_with fail
        go_ret2
        exact .inl ⟨m, rfl, HR, hr, hb⟩
      · have ra : rightB m = false := by cases h : rightB m with
          | false => rfl
          | true => exact absurd ((rightB_iff _).1 h).2 (by omega)
        have HR : Hid (readS (bl s) = none) := by show _ = _; unfold readS; rw [if_pos hp, ← HT.out, hm]; show (if _ then _ else _) = _; rw [if_neg hr]
        clear HN hm
        go_wp2_with fail
        refine (right_any _ _).mono ?_
        rintro e w1 ⟨rfl, rfl⟩
        rw [ra]; clear ra
        go_wp2_with fail
        go_quiet (fail)
        go_wp2_with fail
        go_ret2
        exact .inr ⟨rfl, HR, hb.trans ((below_drewN _ _ _).mono hb.size)⟩
    · have HR : Hid (readS (bl s) = none) := by show _ = _; unfold readS; rw [if_pos hp, ← HT.out, hn]; rfl
      clear HN hn
      go_wp2_with fail
      go_quiet (fail)
      go_wp2_with fail
      go_ret2
      exact .inr ⟨rfl, HR, hb.trans ((below_drewN _ _ _).mono hb.size)⟩
  · have HR : Hid (readS (bl s) = none) := by show _ = _; unfold readS; rw [if_neg hp]
    rw [cut_no _ hp]
    go_wp2_with fail
    refine (sumNumber_any d 10 (by decide) w1 (by omega) ha ht).mono ?_
    rintro e w2 ⟨n, ok, rfl, HN, hb⟩
    have hv2 := (hb.cell (show (⟨6, 0, none⟩ : Addr).block < w1.heap.size from hg)).trans hv
    clear hv ha ht HN
    go_wp2_with fail
    go_quiet (fail)
    go_wp2_with fail
    go_ret2
    exact .inr ⟨rfl, HR, hb.trans ((below_drewN _ _ _).mono hb.size)⟩

end Go.Proofs.YtcjjbpoaojjojaaGreatDoor

namespace Go.Proofs.YtcjjbpoaojjojaaGreatDoor
open Go Go.RowKit

def readI (o : Option Nat) : Int := match o with
  | some v => v
  | none => 0
def readC (o : Option Nat) : Int := match o with
  | some _ => 0
  | none => 1

theorem numOf_nil (most : Nat) : numOf [] most = none := numOf_not _ _ fun n h => decDigits_ne n h.symm

set_option maxHeartbeats 1000000 in
set_option maxRecDepth 100000 in
theorem readSum_any (s : ByteArray) (w : World) (hs : s.size ≤ 281474976710656) :
    Calls Tryz.prog 178 #[.string s] w fun e w' => e = .returned (.tuple #[.int .i64 (readI (readS (bl s))), .int .i64 (readC (readS (bl s)))]) ∧ w = w' := by
  by_cases h2 : (s.size : Int) < 2
  · have HR : Hid (readS (bl s) = none) := by
      show _ = _; unfold readS
      split
      · have e : (bl s).tail = [] := List.eq_nil_of_length_eq_zero (by rw [List.length_tail, bl_length]; omega)
        rw [e, numOf_nil]; rfl
      · rfl
    go_enter Tryz.func178, Tryz.ntmps178
    go_wp2_with fail
    go_ret2
    rw [HR.out]; exact ⟨rfl, rfl⟩
  · have hs0 : 0 < s.size := by omega
    have i0 : ∀ W : World, (Instr.index 9 (.string s) (.int .i64 0)).run Tryz.prog W = .ok (.int .u8 (s[0]'hs0).toNat) W := index_nat s 0 0 hs0 rfl
    have sl : ∀ W : World, (Instr.slice 9 (.string s) (some (.int .i64 1)) none none).run Tryz.prog W = .ok (.string (s.extract 1 s.size)) W := slice_from s 1 1 (by omega) rfl
    have hd : bl s = (s[0]'hs0) :: (bl s).drop 1 := by have := drop_cons s 0 hs0; rwa [List.drop_zero] at this
    have ex : bl (s.extract 1 s.size) = (bl s).tail := by rw [bl_extract, ← List.drop_one, List.take_of_length_le (by rw [List.length_drop, bl_length]; omega)]
    have hx : (s.extract 1 s.size).size ≤ 281474976710656 := by rw [← bl_length, ex, List.length_tail, bl_length]; omega
    have HX := Lib.hid ex
    have NN := Lib.hid (numberOf_any (s.extract 1 s.size) 10 (by decide) w hx)
    have RS : Hid (readS (bl s) = if (s[0]'hs0) = 115 then (numOf (bl (s.extract 1 s.size)) 10).bind fun n => if n < 1000000007 then some n else none else none) := by
      show _ = _
      unfold readS
      have hh : (bl s).head? = some (s[0]'hs0) := by rw [hd]; rfl
      rw [ex, hh]
      simp
    clear hd ex hx HX
    generalize numOf (bl (s.extract 1 s.size)) 10 = o at *
    by_cases h115 : (s[0]'hs0).toNat = 115
    · have q : (((s[0]'hs0).toNat : Int) != 115) = false := by rw [bne_eq_false_iff_eq]; omega
      have h115' : (s[0]'hs0) = 115 := UInt8.toNat_inj.1 h115
      rw [if_pos h115'] at RS
      clear h115 h115'
      cases o with
      | none =>
        have HR : Hid (readS (bl s) = none) := RS.out
        clear RS
        go_enter Tryz.func178, Tryz.ntmps178
        go_wp2_with fail
        refine NN.out.mono ?_
        rintro e w1 ⟨rfl, rfl⟩
        rw [show numI none = -1 from rfl]
        clear NN
        go_wp2_with fail
        go_ret2
        rw [HR.out]; exact ⟨rfl, rfl⟩
      | some n =>
        by_cases hn : n < 1000000007
        · have HR : Hid (readS (bl s) = some n) := by
            show _ = _; rw [RS.out]; show (if _ then _ else _) = _; rw [if_pos hn]
          clear RS
          go_enter Tryz.func178, Tryz.ntmps178
          go_wp2_with fail
          refine NN.out.mono ?_
          rintro e w1 ⟨rfl, rfl⟩
          rw [show numI (some n) = (n : Int) from rfl]
          clear NN
          go_wp2_with fail
          go_ret2
          rw [HR.out]; exact ⟨rfl, rfl⟩
        · have HR : Hid (readS (bl s) = none) := by
            show _ = _; rw [RS.out]; show (if _ then _ else _) = _; rw [if_neg hn]
          clear RS
          go_enter Tryz.func178, Tryz.ntmps178
          go_wp2_with fail
          refine NN.out.mono ?_
          rintro e w1 ⟨rfl, rfl⟩
          rw [show numI (some n) = (n : Int) from rfl]
          clear NN
          go_wp2_with fail
          go_ret2
          rw [HR.out]; exact ⟨rfl, rfl⟩
    · have q : (((s[0]'hs0).toNat : Int) != 115) = true := by rw [bne_iff_ne]; omega
      have h115' : ¬ (s[0]'hs0) = 115 := fun h => h115 (by rw [h]; rfl)
      rw [if_neg h115'] at RS
      have HR : Hid (readS (bl s) = none) := RS.out
      clear h115 h115' RS
      go_enter Tryz.func178, Tryz.ntmps178
      go_wp2_with fail
      refine NN.out.mono ?_
      rintro e w1 ⟨rfl, rfl⟩
      clear NN
      go_wp2_with fail
      go_ret2
      rw [HR.out]; exact ⟨rfl, rfl⟩
end Go.Proofs.YtcjjbpoaojjojaaGreatDoor
