/- sum.Join, Text, Read by their contracts. -/
import Derived.Test.YtkplekkldkmdhaaDoorSumOf
import Derived.Test.YtkplekkldkmdhaaDoorSumNum
import Derived.Test.YtkplekkldkmdhaaDoorEnv
import Derived.Test.YtkplekkldkmdhaaDoorRow
import Derived.Deep.QuietTactic
import Derived.BigQuiet
namespace Go.Proofs.YtkplekkldkmdhaaDoor
open Go Go.RowKit

set_option maxRecDepth 100000 in
theorem sumJoin_ok (a b n : Nat) (ha : a < 1000000007) (hb : b < 1000000007) (hn : n ≤ 1073741824) (w : World) :
    Calls Tryd.prog 22 #[.int .i64 a, .int .i64 b, .int .i64 n] w fun e w' => e = .returned (.tuple #[.int .i64 (joinN a b n : Nat), .nilIface]) ∧ w = w' := by
  have ra : rightB a = true := (rightB_iff _).2 ⟨by omega, by omega⟩
  have rb : rightB b = true := (rightB_iff _).2 ⟨by omega, by omega⟩
  have hp := powM_lt n
  have hm := mul_lt_int a (powM n) ha hp
  have e1 : ((a : Int) * (powM n : Int) + (b : Int)) % 1000000007 = ((joinN a b n : Nat) : Int) := by
    unfold joinN; rw [← Int.natCast_mul, ← Int.natCast_add]; rfl
  have l1 := joinN_lt a b n
  have hpow := Lib.hid (fun w => power_any n w hn)
  generalize joinN a b n = r at *
  generalize powM n = p at *
  clear hp
  have n0 : ¬ ((n : Int) < 0) := by omega
  have n1 : ¬ ((1073741824 : Int) < (n : Int)) := by omega
  clear hn
  generalize (n : Int) = ni at *
  have HM := Lib.hid hm
  have HE := Lib.hid e1
  have HL := Lib.hid l1
  clear hm e1 l1
  have HA := Lib.hid ha
  have HB := Lib.hid hb
  clear ha hb
  go_enter Tryd.func22, Tryd.ntmps22
  go_wp2_with fail
  refine (right_any _ _).mono ?_
  rintro e w1 ⟨rfl, rfl⟩
  rw [ra]; clear ra
  go_wp2_with fail
  refine (right_any _ _).mono ?_
  rintro e w1 ⟨rfl, rfl⟩
  rw [rb]; clear rb
  go_wp2_with fail
  refine (hpow.out _).mono ?_
  rintro e w1 ⟨rfl, rfl⟩
  clear hpow
  have hm := HM.out
  have ha := HA.out
  have hb := HB.out
  clear HA HB
  have e1 := HE.out
  have l1 := HL.out
  clear HM HE HL n0 n1
  have l2 : (r : Int) < 1000000007 := by omega
  have l3 : (0 : Int) ≤ (r : Int) := by omega
  have b1 : (b : Int) < 1000000007 := by omega
  have b2 : (0 : Int) ≤ (b : Int) := by omega
  clear l1 ha hb
  generalize (a : Int) = ai at *
  generalize (b : Int) = bi at *
  generalize (p : Int) = pi at *
  go_wp2_with fail
  go_ret2
  refine ⟨?_, rfl⟩
  show Ending.returned (.tuple #[.int .i64 ((ai * pi + bi) % 1000000007), .nilIface]) = _
  rw [e1]

/-- What Join refuses. -/
def joinBad (a b n : Int) : Prop := ¬ (rightB a = true ∧ rightB b = true ∧ 0 ≤ n ∧ n ≤ 1073741824)

set_option maxRecDepth 100000 in
theorem sumJoin_bad (a b n : Int) (h : joinBad a b n) (v : Value) (w : World) (hv : w.cell? ⟨1, 0, none⟩ = some v) :
    Calls Tryd.prog 22 #[.int .i64 a, .int .i64 b, .int .i64 n] w fun e w' => e = .returned (.tuple #[.int .i64 0, v]) ∧ Below w.heap.size w w' := by
  go_enter Tryd.func22, Tryd.ntmps22
  go_wp2_with fail
  refine (right_any _ _).mono ?_
  rintro e w1 ⟨rfl, rfl⟩
  cases ha : rightB a with
  | false =>
    clear h
    go_wp2_with fail
    go_quiet (fail)
    go_wp2_with fail
    go_ret2
    exact ⟨rfl, below_drewN _ _ _⟩
  | true =>
    go_wp2_with fail
    refine (right_any _ _).mono ?_
    rintro e w1 ⟨rfl, rfl⟩
    cases hb : rightB b with
    | false =>
      clear h
      go_wp2_with fail
      go_quiet (fail)
      go_wp2_with fail
      go_ret2
      exact ⟨rfl, below_drewN _ _ _⟩
    | true =>
      by_cases h0 : 0 ≤ n
      · have h1 : ¬ n ≤ 1073741824 := fun h1 => h ⟨ha, hb, h0, h1⟩
        clear h
        go_wp2_with fail
        go_quiet (fail)
        go_wp2_with fail
        go_ret2
        exact ⟨rfl, below_drewN _ _ _⟩
      · clear h
        go_wp2_with fail
        go_quiet (fail)
        go_wp2_with fail
        go_ret2
        exact ⟨rfl, below_drewN _ _ _⟩

theorem len_s (t : ByteArray) (h : t.size ≤ 21) : ((⟨#[115]⟩ : ByteArray) ++ t).size ≤ 22 := by
  have : (bl ((⟨#[115]⟩ : ByteArray) ++ t)).length = 1 + (bl t).length := by rw [bl_append, List.length_append]; rfl
  rw [bl_length, bl_length] at this; omega
theorem sumText_ok (n : Nat) (hn : n < 1000000007) (w : World) (ht : PowTab w) :
    Calls Tryd.prog 27 #[.int .i64 n] w fun e w' => ∃ t : ByteArray, e = .returned (.string t) ∧ Hid (bl t = 115 :: Lib.decDigits n) ∧ t.size ≤ 22 ∧ Below w.heap.size w w' := by
  have ra : rightB n = true := (rightB_iff _).2 ⟨by omega, by omega⟩
  go_enter Tryd.func27, Tryd.ntmps27
  go_wp2_with fail
  refine (right_any _ _).mono ?_
  rintro e w1 ⟨rfl, rfl⟩
  rw [ra]
  go_wp2_with fail
  refine (itoa_any n (by omega) _ ht).mono ?_
  rintro e w1 ⟨t, rfl, HT, hs, hb⟩
  go_wp2_with fail
  go_ret
  exact ⟨_, rfl, by show bl (_ ++ _) = _; rw [bl_append, HT.out]; rfl, len_s t hs, hb⟩
theorem sumText_bad (n : Int) (hn : rightB n = false) (w : World) :
    Calls Tryd.prog 27 #[.int .i64 n] w fun e w' => e = .returned (.string ⟨#[]⟩) ∧ w = w' := by
  go_enter Tryd.func27, Tryd.ntmps27
  go_wp2_with fail
  refine (right_any _ _).mono ?_
  rintro e w1 ⟨rfl, rfl⟩
  rw [hn]
  go_wp2_with fail
  go_ret
  exact ⟨rfl, rfl⟩

/-- The sum that a text tells. -/
def readS (l : List UInt8) : Option Nat := if l.head? = some 115 then (numOf l.tail 10).bind fun n => if n < 1000000007 then some n else none else none

def ReadPost (s : ByteArray) (v0 : Value) (w : World) (e : Ending) (w' : World) : Prop :=
  (∃ n : Nat, e = .returned (.tuple #[.int .i64 n, .nilIface]) ∧ Hid (readS (bl s) = some n) ∧ n < 1000000007 ∧ Below w.heap.size w w') ∨
  (e = .returned (.tuple #[.int .i64 0, v0]) ∧ Hid (readS (bl s) = none) ∧ Below w.heap.size w w')
end Go.Proofs.YtkplekkldkmdhaaDoor
