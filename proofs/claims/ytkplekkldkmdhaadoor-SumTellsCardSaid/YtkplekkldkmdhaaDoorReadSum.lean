/- The reference's ReadSum by its contract. -/
import Derived.Test.YtkplekkldkmdhaaDoorNumberOf
import Derived.Test.YtkplekkldkmdhaaDoorSumRead
namespace Go.Proofs.YtkplekkldkmdhaaDoor
open Go Go.RowKit

def readI (o : Option Nat) : Int := match o with
  | some v => v
  | none => 0
def readC (o : Option Nat) : Int := match o with
  | some _ => 0
  | none => 1

theorem numOf_nil (most : Nat) : numOf [] most = none := numOf_not _ _ fun n h => decDigits_ne n h.symm

set_option maxHeartbeats 1000000 in
set_option maxRecDepth 100000 in
theorem readSum_any (s : ByteArray) (w : World) (hs : s.size ≤ 281474976710656) :
    Calls Tryd.prog 30 #[.string s] w fun e w' => e = .returned (.tuple #[.int .i64 (readI (readS (bl s))), .int .i64 (readC (readS (bl s)))]) ∧ w = w' := by
  by_cases h2 : (s.size : Int) < 2
  · have HR : Hid (readS (bl s) = none) := by
      show _ = _; unfold readS
      split
      · have e : (bl s).tail = [] := List.eq_nil_of_length_eq_zero (by rw [List.length_tail, bl_length]; omega)
        rw [e, numOf_nil]; rfl
      · rfl
    go_enter Tryd.func30, Tryd.ntmps30
    go_wp2_with fail
    go_ret2
    rw [HR.out]; exact ⟨rfl, rfl⟩
  · have hs0 : 0 < s.size := by omega
    have i0 : ∀ W : World, (Instr.index 9 (.string s) (.int .i64 0)).run Tryd.prog W = .ok (.int .u8 (s[0]'hs0).toNat) W := index_nat s 0 0 hs0 rfl
    have sl : ∀ W : World, (Instr.slice 9 (.string s) (some (.int .i64 1)) none none).run Tryd.prog W = .ok (.string (s.extract 1 s.size)) W := slice_from s 1 1 (by omega) rfl
    have hd : bl s = (s[0]'hs0) :: (bl s).drop 1 := by have := drop_cons s 0 hs0; rwa [List.drop_zero] at this
    have ex : bl (s.extract 1 s.size) = (bl s).tail := by rw [bl_extract, ← List.drop_one, List.take_of_length_le (by rw [List.length_drop, bl_length]; omega)]
    have hx : (s.extract 1 s.size).size ≤ 281474976710656 := by rw [← bl_length, ex, List.length_tail, bl_length]; omega
    have HX := Lib.hid ex
    have NN := Lib.hid (numberOf_any (s.extract 1 s.size) 10 (by decide) w hx)
    have RS : Hid (readS (bl s) = if (s[0]'hs0) = 115 then (numOf (bl (s.extract 1 s.size)) 10).bind fun n => if n < 1000000007 then some n else none else none) := by
      show _ = _
      unfold readS
      have hh : (bl s).head? = some (s[0]'hs0) := by rw [hd]; rfl
      rw [ex, hh]
      simp
    clear hd ex hx HX
    generalize numOf (bl (s.extract 1 s.size)) 10 = o at *
    by_cases h115 : (s[0]'hs0).toNat = 115
    · have q : (((s[0]'hs0).toNat : Int) != 115) = false := by rw [bne_eq_false_iff_eq]; omega
      have h115' : (s[0]'hs0) = 115 := UInt8.toNat_inj.1 h115
      rw [if_pos h115'] at RS
      clear h115 h115'
      cases o with
      | none =>
        have HR : Hid (readS (bl s) = none) := RS.out
        clear RS
        go_enter Tryd.func30, Tryd.ntmps30
        go_wp2_with fail
        refine NN.out.mono ?_
        rintro e w1 ⟨rfl, rfl⟩
        rw [show numI none = -1 from rfl]
        clear NN
        go_wp2_with fail
        go_ret2
        rw [HR.out]; exact ⟨rfl, rfl⟩
      | some n =>
        by_cases hn : n < 1000000007
        · have HR : Hid (readS (bl s) = some n) := by
            show _ = _; rw [RS.out]; show (if _ then _ else _) = _; rw [if_pos hn]
          clear RS
          go_enter Tryd.func30, Tryd.ntmps30
          go_wp2_with fail
          refine NN.out.mono ?_
          rintro e w1 ⟨rfl, rfl⟩
          rw [show numI (some n) = (n : Int) from rfl]
          clear NN
          go_wp2_with fail
          go_ret2
          rw [HR.out]; exact ⟨rfl, rfl⟩
        · have HR : Hid (readS (bl s) = none) := by
            show _ = _; rw [RS.out]; show (if _ then _ else _) = _; rw [if_neg hn]
          clear RS
          go_enter Tryd.func30, Tryd.ntmps30
          go_wp2_with fail
          refine NN.out.mono ?_
          rintro e w1 ⟨rfl, rfl⟩
          rw [show numI (some n) = (n : Int) from rfl]
          clear NN
          go_wp2_with fail
          go_ret2
          rw [HR.out]; exact ⟨rfl, rfl⟩
    · have q : (((s[0]'hs0).toNat : Int) != 115) = true := by rw [bne_iff_ne]; omega
      have h115' : ¬ (s[0]'hs0) = 115 := fun h => h115 (by rw [h]; rfl)
      rw [if_neg h115'] at RS
      have HR : Hid (readS (bl s) = none) := RS.out
      clear h115 h115' RS
      go_enter Tryd.func30, Tryd.ntmps30
      go_wp2_with fail
      refine NN.out.mono ?_
      rintro e w1 ⟨rfl, rfl⟩
      clear NN
      go_wp2_with fail
      go_ret2
      rw [HR.out]; exact ⟨rfl, rfl⟩
end Go.Proofs.YtkplekkldkmdhaaDoor
