/- sum.Read by its contract. -/
import Derived.Test.YtkplekkldkmdhaaDoorSumJoin
namespace Go.Proofs.YtkplekkldkmdhaaDoor
open Go Go.RowKit

theorem cut_yes (l : List UInt8) (h : l.head? = some 115) : Lib.hasPrefix l [115] = true ∧ Lib.trimPrefix l [115] = l.tail := by
  cases l with
  | nil => cases h
  | cons c r =>
    simp only [List.head?_cons, Option.some.injEq] at h
    subst h
    constructor
    · simp [Lib.hasPrefix]
    · simp [Lib.trimPrefix, Lib.hasPrefix]
theorem cut_no (l : List UInt8) (h : ¬ l.head? = some 115) : Lib.hasPrefix l [115] = false := by
  cases l with
  | nil => rfl
  | cons c r =>
    simp only [List.head?_cons, Option.some.injEq] at h
    show ((115 : UInt8) == c && List.isPrefixOf [] r) = false
    rw [show ((115 : UInt8) == c) = false from beq_eq_false_iff_ne.2 fun e => h e.symm]; rfl

theorem cut_any (s : ByteArray) (w : World) : Calls Tryd.prog 52 #[.string s, .string ⟨#[115]⟩] w fun e w' =>
    (∃ d : ByteArray, e = .returned (.tuple #[.string d, .bool (Lib.hasPrefix (bl s) [115])]) ∧ Hid (bl d = Lib.trimPrefix (bl s) [115]) ∧ d.size ≤ s.size) ∧ w' = w := by
  refine (Tryd.strings_CutPrefix s ⟨#[115]⟩ w).mono ?_
  rintro e w' ⟨rfl, rfl⟩
  refine ⟨⟨_, rfl, rfl, ?_⟩, rfl⟩
  show (Lib.trimPrefix s.data.toList [115]).toArray.size ≤ _
  rw [List.size_toArray]
  have : (bl s).length = s.size := bl_length s
  by_cases h : (bl s).head? = some 115
  · rw [show s.data.toList = bl s from rfl, (cut_yes _ h).2, List.length_tail]; omega
  · have h2 := cut_no _ h
    rw [show s.data.toList = bl s from rfl]
    simp [Lib.trimPrefix, h2, this]

set_option maxHeartbeats 1000000 in
set_option maxRecDepth 100000 in
theorem sumRead_any (s : ByteArray) (v0 : Value) (w : World) (hs : s.size ≤ 281474976710656) (ha : AtoiEnv w) (ht : PowTab w) (hv : w.cell? ⟨2, 0, none⟩ = some v0) :
    Calls Tryd.prog 29 #[.string s] w (ReadPost s v0 w) := by
  go_enter Tryd.func29, Tryd.ntmps29
  go_wp2_with fail
  refine (cut_any s w).mono ?_
  rintro e w1 ⟨⟨d, rfl, HD, hd⟩, rfl⟩
  have hg : 2 < w1.heap.size := Lib.lt_of_cell hv
  by_cases hp : (bl s).head? = some 115
  · have hpp := cut_yes _ hp
    have HT : Hid (bl d = (bl s).tail) := by show _ = _; rw [HD.out, hpp.2]
    rw [hpp.1]
    clear HD hpp
    go_wp2_with fail
    refine (sumNumber_any d 10 (by decide) w1 (by omega) ha ht).mono ?_
    rintro e w2 ⟨n, ok, rfl, HN, hb⟩
    have hv2 := (hb.cell (show (⟨2, 0, none⟩ : Addr).block < w1.heap.size from hg)).trans hv
    clear hv ha ht
    rcases HN.out with ⟨m, hm, rfl, rfl⟩ | ⟨hn, rfl⟩
    · by_cases hr : m < 1000000007
      · have ra : rightB m = true := (rightB_iff _).2 ⟨by omega, by omega⟩
        have HR : Hid (readS (bl s) = some m) := by show _ = _; unfold readS; rw [if_pos hp, ← HT.out, hm]; show (if _ then _ else _) = _; rw [if_pos hr]
        clear HN hm
        go_wp2_with fail
        refine (right_any _ _).mono ?_
        rintro e w1 ⟨rfl, rfl⟩
        rw [ra]; clear ra
        go_wp2_with fail
        go_ret2
        exact .inl ⟨m, rfl, HR, hr, hb⟩
      · have ra : rightB m = false := by cases h : rightB m with
          | false => rfl
          | true => exact absurd ((rightB_iff _).1 h).2 (by omega)
        have HR : Hid (readS (bl s) = none) := by show _ = _; unfold readS; rw [if_pos hp, ← HT.out, hm]; show (if _ then _ else _) = _; rw [if_neg hr]
        clear HN hm
        go_wp2_with fail
        refine (right_any _ _).mono ?_
        rintro e w1 ⟨rfl, rfl⟩
        rw [ra]; clear ra
        go_wp2_with fail
        go_quiet (fail)
        go_wp2_with fail
        go_ret2
        exact .inr ⟨rfl, HR, hb.trans ((below_drewN _ _ _).mono hb.size)⟩
    · have HR : Hid (readS (bl s) = none) := by show _ = _; unfold readS; rw [if_pos hp, ← HT.out, hn]; rfl
      clear HN hn
      go_wp2_with fail
      go_quiet (fail)
      go_wp2_with fail
      go_ret2
      exact .inr ⟨rfl, HR, hb.trans ((below_drewN _ _ _).mono hb.size)⟩
  · have HR : Hid (readS (bl s) = none) := by show _ = _; unfold readS; rw [if_neg hp]
    rw [cut_no _ hp]
    go_wp2_with fail
    refine (sumNumber_any d 10 (by decide) w1 (by omega) ha ht).mono ?_
    rintro e w2 ⟨n, ok, rfl, HN, hb⟩
    have hv2 := (hb.cell (show (⟨2, 0, none⟩ : Addr).block < w1.heap.size from hg)).trans hv
    clear hv ha ht HN
    go_wp2_with fail
    go_quiet (fail)
    go_wp2_with fail
    go_ret2
    exact .inr ⟨rfl, HR, hb.trans ((below_drewN _ _ _).mono hb.size)⟩

set_option maxRecDepth 100000 in
theorem summed_any (w : World) : Calls Tryd.prog 21 #[] w fun e w' => e = .returned (.bool true) ∧ w = w' := by
  have s0 : sumL (bl ⟨#[]⟩) = 0 := by decide
  have s1 : sumL (bl ⟨#[97]⟩) = 98 := by decide
  have s2 : sumL (bl ⟨#[97, 98]⟩) = 25873 := by decide
  go_enter Tryd.func21, Tryd.ntmps21
  go_wp2_with fail
  refine (sumOf_any _ _ (by decide)).mono ?_
  rintro e w1 ⟨rfl, rfl⟩
  rw [s0]; clear s0
  go_wp2_with fail
  refine (sumOf_any _ _ (by decide)).mono ?_
  rintro e w1 ⟨rfl, rfl⟩
  rw [s1]; clear s1
  go_wp2_with fail
  refine (sumOf_any _ _ (by decide)).mono ?_
  rintro e w1 ⟨rfl, rfl⟩
  rw [s2]; clear s2
  go_wp2_with fail
  go_ret
  exact ⟨rfl, rfl⟩
end Go.Proofs.YtkplekkldkmdhaaDoor
