/- chandlerylaw1.SumTells: the walk. -/
import Derived.Test.YtkplekkldkmdhaaDoorReadSum
import Derived.Test.YtkplekkldkmdhaaDoorCoded
import Derived.Test.YtkplekkldkmdhaaDoorErrInv
namespace Go.Proofs.YtkplekkldkmdhaaDoor
open Go Go.RowKit

/-- What the two Joins answer: the same. -/
theorem join_cases (a b n : Int) : (∃ x y z : Nat, a = x ∧ b = y ∧ n = z ∧ x < 1000000007 ∧ y < 1000000007 ∧ z ≤ 1073741824) ∨ joinBad a b n := by
  by_cases h : rightB a = true ∧ rightB b = true ∧ 0 ≤ n ∧ n ≤ 1073741824
  · obtain ⟨ha, hb, h0, h1⟩ := h
    have ha := (rightB_iff _).1 ha
    have hb := (rightB_iff _).1 hb
    exact .inl ⟨a.toNat, b.toNat, n.toNat, by omega, by omega, by omega, by omega, by omega, by omega⟩
  · exact .inr h

/-- Join of any numbers: its answer, and what the reference answers. -/
theorem join_both {E : Nat → Addr} {w : World} (hE : Env E w) (a b n : Int) : ∃ (x : Int) (er : Er) (v : Value) (c : Int), IsErr E w v er ∧ codedB er c = true ∧
    (Calls Tryd.prog 22 #[.int .i64 a, .int .i64 b, .int .i64 n] w fun e w' => e = .returned (.tuple #[.int .i64 x, v]) ∧ Below w.heap.size w w') ∧
    (∀ w2 : World, Calls Tryd.prog 23 #[.int .i64 a, .int .i64 b, .int .i64 n] w2 fun e w' => e = .returned (.tuple #[.int .i64 x, .int .i64 c]) ∧ w2 = w') := by
  rcases join_cases a b n with ⟨x, y, z, rfl, rfl, rfl, hx, hy, hz⟩ | h
  · refine ⟨_, Er.nil, .nilIface, 0, IsErr.nil E w, rfl, (sumJoin_ok x y z hx hy hz w).mono ?_, fun w2 => refJoin_ok x y z hx hy hz w2⟩
    rintro e w' ⟨rfl, rfl⟩
    exact ⟨rfl, Below.refl _ _⟩
  · exact ⟨0, Er.base 2, sentV E 1, 2, IsErr.base E w 1 (by decide), by decide, sumJoin_bad a b n h _ w hE.eBound, fun w2 => refJoin_bad a b n h w2⟩

theorem text_both (a : Int) : ∃ L : List UInt8, (∀ w : World, PowTab w → Calls Tryd.prog 27 #[.int .i64 a] w fun e w' => ∃ t : ByteArray, e = .returned (.string t) ∧ Hid (bl t = L) ∧ Below w.heap.size w w') ∧
    (∀ w : World, Calls Tryd.prog 28 #[.int .i64 a] w fun e w' => ∃ t : ByteArray, e = .returned (.string t) ∧ Hid (bl t = L) ∧ Below w.heap.size w w') := by
  cases ha : rightB a with
  | true =>
    have hh := (rightB_iff _).1 ha
    obtain ⟨n, rfl⟩ : ∃ n : Nat, a = n := ⟨a.toNat, by omega⟩
    refine ⟨_, fun w ht => (sumText_ok n (by omega) w ht).mono ?_, fun w => refText_ok n (by omega) w⟩
    rintro e w' ⟨t, h1, h2, _, h3⟩
    exact ⟨t, h1, h2, h3⟩
  | false =>
    refine ⟨[], fun w _ => (sumText_bad a ha w).mono ?_, fun w => (refText_bad a ha w).mono ?_⟩ <;>
    · rintro e w' ⟨rfl, rfl⟩
      exact ⟨_, rfl, rfl, Below.refl _ _⟩

set_option maxHeartbeats 1000000 in
set_option maxRecDepth 100000 in
theorem sumTells_walk {E : Nat → Addr} {w : World} (hE : Env E w) (hA : AtoiEnv w) (ht : PowTab w) (s t : ByteArray) (a b n : Int) :
    Calls Tryd.prog 5 #[.string s, .string t, .int .i64 a, .int .i64 b, .int .i64 n] w fun e w' => e = .returned (.bool true) ∧ Below w.heap.size w w' := by
  obtain ⟨x, er, v, c, hv, hc, J1, J2⟩ := join_both hE a b n
  obtain ⟨L, T1, T2⟩ := text_both a
  have J1 := Lib.hid J1
  have J2 := Lib.hid J2
  have T1 := Lib.hid T1
  have T2 := Lib.hid T2
  go_enter Tryd.func5, Tryd.ntmps5
  go_wp2_with fail
  refine (summed_any w).mono ?_
  rintro e w1 ⟨rfl, rfl⟩
  by_cases ls : s.size ≤ 500
  · by_cases lt : t.size ≤ 40
    · go_wp2_with fail
      refine J1.out.mono ?_
      rintro e w1 ⟨rfl, hb1⟩
      have hE1 := hE.ext hb1
      have hA1 := hA.ext hb1
      have ht1 := ht.ext hb1
      have hv1 := hv.ext hb1
      clear J1 hE hA ht hv
      go_wp2_with fail
      refine (J2.out _).mono ?_
      rintro e w2 ⟨rfl, rfl⟩
      clear J2
      go_wp2_with fail
      refine (coded_any hE1 hv1 c).mono ?_
      rintro e w2 ⟨rfl, hb2⟩
      rw [hc]
      have hbb2 := hb1.trans (hb2.mono hb1.size)
      have hE2 := hE1.ext hb2
      have hA2 := hA1.ext hb2
      have ht2 := ht1.ext hb2
      clear hb1 hb2 hE1 hA1 ht1 hv1 hc
      go_wp2_with fail
      refine (sumOf_any s _ (by omega)).mono ?_
      rintro e w3 ⟨rfl, rfl⟩
      go_wp2_with fail
      refine (refSumOf_any s _ (by omega)).mono ?_
      rintro e w3 ⟨rfl, rfl⟩
      go_wp2_with fail
      refine (T1.out _ ht2).mono ?_
      rintro e w3 ⟨t1, rfl, HT1, hb3⟩
      have hbb3 := hbb2.trans (hb3.mono hbb2.size)
      have hE3 := hE2.ext hb3
      have hA3 := hA2.ext hb3
      have ht3 := ht2.ext hb3
      clear hbb2 hE2 hA2 ht2 hb3 T1
      go_wp2_with fail
      refine (T2.out _).mono ?_
      rintro e w4 ⟨t2, rfl, HT2, hb4⟩
      have hbb4 := hbb3.trans (hb4.mono hbb3.size)
      have hE4 := hE3.ext hb4
      have hA4 := hA3.ext hb4
      have ht4 := ht3.ext hb4
      have htt : t1 = t2 := bl_inj (by rw [HT1.out, HT2.out])
      subst htt
      clear hbb3 hE3 hA3 ht3 hb4 T2 HT1 HT2
      go_wp2_with fail
      refine (sumRead_any t (sentV E 0) w4 (by omega) hA4 ht4 hE4.eText).mono ?_
      rintro e w5 (⟨m, rfl, HN, hm, hb5⟩ | ⟨rfl, HN, hb5⟩)
      · have hE5 := hE4.ext hb5
        have hbb5 := hbb4.trans (hb5.mono hbb4.size)
        clear hE4 hA4 ht4 hb5 hbb4
        go_wp2_with fail
        refine (readSum_any t _ (by omega)).mono ?_
        rintro e w6 ⟨rfl, rfl⟩
        rw [HN.out, show readI (some m) = (m : Int) from rfl, show readC (some m) = 0 from rfl]
        go_wp2_with fail
        refine (coded_any hE5 (IsErr.nil E _) 0).mono ?_
        rintro e w6 ⟨rfl, hb6⟩
        rw [show codedB Er.nil 0 = true from rfl]
        go_wp2_with fail
        go_ret
        exact ⟨rfl, hbb5.trans (hb6.mono hbb5.size)⟩
      · have hE5 := hE4.ext hb5
        have hbb5 := hbb4.trans (hb5.mono hbb4.size)
        clear hE4 hA4 ht4 hb5 hbb4
        go_wp2_with fail
        refine (readSum_any t _ (by omega)).mono ?_
        rintro e w6 ⟨rfl, rfl⟩
        rw [HN.out, show readI none = 0 from rfl, show readC none = 1 from rfl]
        go_wp2_with fail
        refine (coded_any hE5 (IsErr.base E _ 0 (by decide)) 1).mono ?_
        rintro e w6 ⟨rfl, hb6⟩
        rw [show codedB (Er.base (0 + 1)) 1 = true from by decide]
        go_wp2_with fail
        go_ret
        exact ⟨rfl, hbb5.trans (hb6.mono hbb5.size)⟩
    · go_wp2_with fail
      go_ret
      exact ⟨rfl, Below.refl _ _⟩
  · go_wp2_with fail
    go_ret
    exact ⟨rfl, Below.refl _ _⟩
end Go.Proofs.YtkplekkldkmdhaaDoor
