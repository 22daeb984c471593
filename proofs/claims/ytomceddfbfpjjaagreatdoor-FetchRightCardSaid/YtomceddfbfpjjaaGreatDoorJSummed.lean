/- sum.Of, Right, power and the reference's own, by their contracts. strconv.Atoi at any text; a number read back (for seats without package sum: the first half of XSumNum). sum.Number by its contract. sum.Join, Text, Read by their contracts. sum.Read by its contract. The reference's sums by their contracts. -/
import Derived.Test.YtomceddfbfpjjaaGreatDoorProg
import Derived.Test.YtomceddfbfpjjaaGreatDoorJPlainly
import Derived.Lib.Hide
import Derived.IntWalk
import Derived.Test.YtomceddfbfpjjaaGreatDoorJTexts
import Derived.Test.YtomceddfbfpjjaaGreatDoorJShelf
import Derived.Test.YtomceddfbfpjjaaGreatDoorJErrors
import Derived.Test.YtomceddfbfpjjaaGreatDoorJRowed
import Derived.Deep.QuietTactic
import Derived.BigQuiet
namespace Go.Proofs.YtomceddfbfpjjaaGreatDoor
open Go Go.RowKit

theorem sumFrom_step (s : ByteArray) (k n : Nat) (h : k < s.size) : sumFrom n ((bl s).drop k) = sumFrom ((n * 263 + s[k].toNat + 1) % sM) ((bl s).drop (k + 1)) := by
  rw [drop_cons s k h]; rfl

set_option maxRecDepth 100000 in
theorem sumOf_any (s : ByteArray) (w : World) (hs : s.size ≤ 9223372036854775807) :
    Calls Tryz.prog 54 #[.string s] w fun e w' => e = .returned (.int .i64 (sumL (bl s) : Nat)) ∧ w = w' := by
  go_enter Tryz.func54, Tryz.ntmps54
  go_wp2
  go_loop [3, 7] (fun n i => ∃ k m : Nat, k ≤ s.size ∧ m < 1000000007 ∧ i = .int .i64 k ∧ n = .int .i64 m ∧ Hid (sumFrom m ((bl s).drop k) = sumL (bl s))) (fun _ i => s.size - (intOf i).toNat)
  case atStart => exact ⟨0, 0, Nat.zero_le _, by decide, rfl, rfl, rfl⟩
  case round =>
    obtain ⟨k, m, hk, hm, rfl, rfl, H⟩ := hrel
    by_cases hlt : k < s.size
    · have H2 : Hid (sumFrom ((m * 263 + s[k].toNat + 1) % sM) ((bl s).drop (k + 1)) = sumL (bl s)) := by
        show _ = _; rw [← sumFrom_step s k m hlt]; exact H.out
      have hb := s[k].toNat_lt
      clear H
      go_wp2
      go_round
      case rel => exact ⟨k + 1, (m * 263 + s[k].toNat + 1) % 1000000007, by omega, by omega, by go_num, by go_num, H2⟩
      case measure => simp [intOf]; omega
    · have e : sumFrom m ((bl s).drop k) = m := by rw [drop_nil s k (by omega)]; rfl
      have E := Lib.hid e; clear e
      go_wp2
      go_ret
      rw [← H.out, E.out]
      exact ⟨rfl, rfl⟩

/-- Is a number a sum? -/
def rightB (i : Int) : Bool := decide (0 ≤ i) && decide (i < 1000000007)
theorem rightB_iff (i : Int) : rightB i = true ↔ 0 ≤ i ∧ i < 1000000007 := by simp [rightB]

theorem right_any (i : Int) (w : World) : Calls Tryz.prog 91 #[.int .i64 i] w fun e w' => e = .returned (.bool (rightB i)) ∧ w = w' := by
  go_enter Tryz.func91, Tryz.ntmps91
  by_cases h0 : 0 ≤ i
  · by_cases h1 : i < 1000000007
    · have e : rightB i = true := (rightB_iff i).2 ⟨h0, h1⟩
      rw [e]; go_wp2; go_ret; exact ⟨rfl, rfl⟩
    · have e : rightB i = false := by simp [rightB, h1]
      rw [e]; go_wp2; go_ret; exact ⟨rfl, rfl⟩
  · have e : rightB i = false := by simp [rightB, h0]
    rw [e]; go_wp2; go_ret; exact ⟨rfl, rfl⟩

/-- The loop of power: what is told times what is left. -/
def PowInv (out x n N : Nat) : Prop := (out * x ^ n) % sM = powM N
theorem PowInv.even {out x n N : Nat} (h : PowInv out x n N) (h1 : ¬ n % 2 = 1) : PowInv out (x * x % sM) (n / 2) N := by
  unfold PowInv at h ⊢
  rw [Nat.mul_mod, pow_half x n, if_neg h1, Nat.mul_one, ← Nat.mul_mod] at h
  exact h
theorem PowInv.start (N : Nat) : PowInv 1 263 N N := by unfold PowInv powM; rw [Nat.one_mul]
theorem PowInv.end {out x N : Nat} (h : PowInv out x 0 N) (ho : out < sM) : out = powM N := by
  unfold PowInv at h; rw [Nat.pow_zero, Nat.mul_one, Nat.mod_eq_of_lt ho] at h; exact h

end Go.Proofs.YtomceddfbfpjjaaGreatDoor

namespace Go.Proofs.YtomceddfbfpjjaaGreatDoor
open Go Go.RowKit

/-- The library's two variables of errors that strconv.Atoi reads hold errors. -/
def ErrIn (w : World) (g : Nat) : Prop := ∃ ev, w.cell? ⟨g, 0, none⟩ = some ev ∧ (ev = .nilIface ∨ ∃ te pe, ev = .iface te pe)
def AtoiEnv (w : World) : Prop := ErrIn w 20 ∧ ErrIn w 21
theorem ErrIn.ext {w w' : World} {g : Nat} (h : ErrIn w g) (hb : Below w.heap.size w w') : ErrIn w' g := by
  obtain ⟨ev, h1, h2⟩ := h
  exact ⟨ev, (hb.cell (show (⟨g, 0, none⟩ : Addr).block < w.heap.size from Lib.lt_of_cell h1)).trans h1, h2⟩
theorem AtoiEnv.ext {w w' : World} (h : AtoiEnv w) (hb : Below w.heap.size w w') : AtoiEnv w' := ⟨h.1.ext hb, h.2.ext hb⟩

/-- strconv.Atoi at any text. -/
theorem atoi_any (s : ByteArray) (w : World) (hs : s.size ≤ 281474976710656) (ha : AtoiEnv w) :
    Calls Tryz.prog 204 #[.string s] w fun e w' => (∃ v : Int, e = .returned (.tuple #[.int .i64 v, .nilIface]) ∧ Hid (Lib.atoiAll (bl s) = .ok v) ∧ Below w.heap.size w w') ∨
      (∃ (v : Int) (te : TypeId) (a : Value), e = .returned (.tuple #[.int .i64 v, .iface te a]) ∧ Hid (∀ n, Lib.atoiAll (bl s) ≠ .ok n) ∧ Below w.heap.size w w') := by
  obtain ⟨⟨e1, h1, h2⟩, ⟨e3, h3, h4⟩⟩ := ha
  rcases h : Lib.atoiAll s.data.toList with v | _ | _
  · refine (Any.strconv_Atoi_ok Tryz.laysC172 s (by omega) v h w).mono ?_
    rintro e w' ⟨rfl, hw⟩
    refine .inl ⟨v, rfl, h, ?_⟩
    rcases hw with rfl | ⟨t, rfl⟩
    · exact Below.refl _ _
    · exact Lib.bytesWorld_below _ _ _
  · refine (Any.strconv_Atoi_syntax Tryz.laysC172 s hs h e1 w h1 h2).mono ?_
    rintro e w' ⟨N, rfl, _, _, hb⟩
    exact .inr ⟨_, _, _, rfl, fun n hn => (by rw [show bl s = s.data.toList from rfl, h] at hn; cases hn), hb⟩
  · refine (Any.strconv_Atoi_range Tryz.laysC172 s hs h e3 w h3 h4).mono ?_
    rintro e w' ⟨N, rfl, _, _, hb⟩
    exact .inr ⟨_, _, _, rfl, fun n hn => (by rw [show bl s = s.data.toList from rfl, h] at hn; cases hn), hb⟩

theorem str_same (s t : ByteArray) (h : t = s) : (t.toList == s.toList) = true := by rw [h]; exact beq_self_eq_true _
theorem str_other (s t : ByteArray) (h : ¬ t = s) : (t.toList == s.toList) = false :=
  beq_eq_false_iff_ne.2 fun e => h (bl_inj (by rwa [Lib.toList_data, Lib.toList_data] at e))

theorem num_no {l : List UInt8} {most : Nat} (hm : most ≤ 18) (h : ∀ m : Nat, l = Lib.decDigits m → l.length ≤ most → Lib.atoiAll l = .ok (m : Int) → False) : numOf l most = none := by
  cases hn : numOf l most with
  | none => rfl
  | some m =>
    obtain ⟨h1, h2⟩ := numOf_some hn
    exact (h m h1 h2 (by rw [h1]; exact atoi_dec m (by rw [← h1]; omega))).elim

end Go.Proofs.YtomceddfbfpjjaaGreatDoor

namespace Go.Proofs.YtomceddfbfpjjaaGreatDoor
open Go Go.RowKit

/-- What Number answers. -/
def NumTold (o : Option Nat) (n : Int) (ok : Bool) : Prop := (∃ m : Nat, o = some m ∧ n = m ∧ ok = true) ∨ (o = none ∧ ok = false)

def NumPost (s : ByteArray) (most : Nat) (w : World) (e : Ending) (w' : World) : Prop :=
  ∃ (n : Int) (ok : Bool), e = .returned (.tuple #[.int .i64 n, .bool ok]) ∧ Hid (NumTold (numOf (bl s) most) n ok) ∧ Below w.heap.size w w'

set_option maxHeartbeats 1000000 in
set_option maxRecDepth 100000 in
theorem sumNumber_any (s : ByteArray) (most : Nat) (hm : most ≤ 18) (w : World) (hs : s.size ≤ 281474976710656) (ha : AtoiEnv w) (ht : PowTab w) :
    Calls Tryz.prog 193 #[.string s, .int .i64 most] w (NumPost s most w) := by
  go_enter Tryz.func193, Tryz.ntmps193
  go_wp2_with fail
  refine (atoi_any s w hs ha).mono ?_
  rintro e w1 (⟨v, rfl, HV, hb⟩ | ⟨v, te, a, rfl, HV, hb⟩)
  · have hT1 := ht.ext hb
    have hv1 : v ≤ 9223372036854775807 := (Lib.atoiAll_bounds HV.out).2
    clear ha ht
    by_cases hl : s.size ≤ most
    · by_cases hv : 0 ≤ v
      · obtain ⟨n, rfl⟩ : ∃ n : Nat, v = n := ⟨v.toNat, by omega⟩
        go_wp2_with fail
        refine (itoa_any n (by omega) w1 hT1).mono ?_
        rintro e w2 ⟨t, rfl, HT, _, hb2⟩
        have hbb := hb.trans (hb2.mono hb.size)
        clear hb hb2 hT1
        by_cases hts : t = s
        · have q : (t.toList == s.toList) = true := str_same s t hts
          go_wp2_with fail
          go_ret2
          refine ⟨_, _, rfl, ?_, hbb⟩
          have : bl s = Lib.decDigits n := by rw [← hts]; exact HT.out
          exact .inl ⟨n, by rw [this]; exact numOf_dec n most (by rw [← this, bl_length]; exact hl), rfl, rfl⟩
        · have q : (t.toList == s.toList) = false := str_other s t hts
          go_wp2_with fail
          go_ret2
          refine ⟨_, _, rfl, .inr ⟨num_no hm fun m h1 h2 h3 => hts ?_, rfl⟩, hbb⟩
          have h4 := HV.out
          rw [h3] at h4
          have h5 : (m : Int) = n := by injection h4
          have h6 : m = n := by omega
          rw [h6] at h1
          exact bl_inj (by rw [HT.out, h1])
      · have H : Hid (numOf (bl s) most = none) := num_no hm fun m h1 h2 h3 => by
          have h4 := HV.out
          rw [h3] at h4
          have h5 : (m : Int) = v := by injection h4
          omega
        go_wp2_with fail
        go_ret2
        exact ⟨_, _, rfl, .inr ⟨H.out, rfl⟩, hb⟩
    · have H : Hid (numOf (bl s) most = none) := num_no hm fun m h1 h2 h3 => by rw [bl_length] at h2; omega
      go_wp2_with fail
      go_ret2
      exact ⟨_, _, rfl, .inr ⟨H.out, rfl⟩, hb⟩
  · have H : Hid (numOf (bl s) most = none) := num_no hm fun m h1 h2 h3 => HV.out _ h3
    go_wp2_with fail
    go_ret2
    exact ⟨_, _, rfl, .inr ⟨H.out, rfl⟩, hb⟩
end Go.Proofs.YtomceddfbfpjjaaGreatDoor

namespace Go.Proofs.YtomceddfbfpjjaaGreatDoor
open Go Go.RowKit

/-- The sum that a text tells. -/
def readS (l : List UInt8) : Option Nat := if l.head? = some 115 then (numOf l.tail 10).bind fun n => if n < 1000000007 then some n else none else none

end Go.Proofs.YtomceddfbfpjjaaGreatDoor

namespace Go.Proofs.YtomceddfbfpjjaaGreatDoor
open Go Go.RowKit

end Go.Proofs.YtomceddfbfpjjaaGreatDoor

namespace Go.Proofs.YtomceddfbfpjjaaGreatDoor
open Go Go.RowKit

end Go.Proofs.YtomceddfbfpjjaaGreatDoor
