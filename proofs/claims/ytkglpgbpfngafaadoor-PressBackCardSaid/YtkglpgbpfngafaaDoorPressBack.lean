/- chandlerylaw1.PressBack: the walk. -/
import Derived.Test.YtkglpgbpfngafaaDoorPressLaw
import Derived.Test.YtkglpgbpfngafaaDoorPressBackPlain
namespace Go.Proofs.YtkglpgbpfngafaaDoor
open Go Go.RowKit

theorem grp_len (l : List UInt8) : (grp l).length ≤ l.length := by
  have h := grp_sum l
  have key : ∀ R : List (Nat × UInt8), (∀ r ∈ R, 0 < r.1) → R.length ≤ sumR R := by
    intro R
    induction R with
    | nil => intro _; exact Nat.zero_le _
    | cons a R ih =>
      intro hR
      have h1 := ih (fun r hr => hR r (by simp [hr]))
      have h2 := hR a (by simp)
      rw [sumR_cons, List.length_cons]; omega
  have := key _ h.2.2
  omega
theorem pressL_len (l : List UInt8) (hl : l.length < 1000000000) : (pressL l).length ≤ 23 * l.length := by
  have hf := grp_fine l (by omega)
  have key : ∀ R : List (Nat × UInt8), (∀ r ∈ R, 0 < r.1 ∧ r.1 < 1000000000) → (R.flatMap runText).length ≤ 23 * R.length := by
    intro R
    induction R with
    | nil => intro _; exact Nat.le_refl _
    | cons a R ih =>
      intro hR
      have h1 := ih (fun r hr => hR r (by simp [hr]))
      have h2 := runText_len a.1 a.2 (by have := (hR a (by simp)).2; omega)
      rw [List.flatMap_cons, List.length_append, List.length_cons]
      have h3 : (runText a).length ≤ 23 := h2
      omega
  have h1 := key _ hf
  have h2 := grp_len l
  show ((grp l).flatMap runText).length ≤ _
  omega

set_option maxHeartbeats 1000000 in
set_option maxRecDepth 100000 in
theorem pressBack_walk {E : Nat → Addr} {w : World} (hE : Env E w) (ht : PowTab w) (s t : ByteArray) (most : Int) :
    Calls Tryd.prog 4 #[.string s, .string t, .int .i64 most] w fun e w' => e = .returned (.bool true) ∧ Below w.heap.size w w' := by
  go_enter Tryd.func4, Tryd.ntmps4
  go_wp2_with fail
  refine (pressed_any hE ht).mono ?_
  rintro e w1 ⟨rfl, hb1⟩
  have hE1 := hE.ext hb1
  have hT1 := ht.ext hb1
  clear hE ht
  by_cases hs : s.size ≤ 500
  · by_cases htt : t.size ≤ 500
    · go_wp2_with fail
      refine (press_any s w1 (by omega) hT1).mono ?_
      rintro e w2 ⟨p, rfl, HP, hb2⟩
      have hE2 := hE1.ext hb2
      have hT2 := hT1.ext hb2
      have hbb2 := hb1.trans (hb2.mono hb1.size)
      have hps : p.size ≤ 11500 := by
        have := pressL_len (bl s) (by rw [bl_length]; omega)
        rw [bl_length, ← HP.out, bl_length] at this; omega
      have HR : Hid (runsL (bl p) = (grp (bl s), none)) := by show _ = _; rw [HP.out]; exact runs_of_press _ (by rw [bl_length]; omega)
      have HG := Lib.hid (grp_sum (bl s))
      have HSZ : Hid (sumR (grp (bl s)) = s.size) := by show _ = _; rw [HG.out.1, bl_length]
      clear hb1 hb2 hE1 hT1
      go_wp2_with fail
      refine (size_any p w2 (by omega) hE2).mono ?_
      rintro e w3 ⟨ev, rfl, hev, hb3⟩
      rw [show sizeR (runsL (bl p)) = s.size by rw [HR.out]; exact HSZ.out]
      rw [HR.out] at hev
      have hevn : ev = .nilIface := hev.nil_inv
      subst hevn
      have hE3 := hE2.ext hb3
      have hT3 := hT2.ext hb3
      have hbb3 := hbb2.trans (hb3.mono hbb2.size)
      clear hev hb3 hE2 hT2 hbb2
      go_wp2_with fail
      refine (open_any p s.size w3 (by omega) (by omega) hE3).mono ?_
      rintro e w4 ⟨x, ev, rfl, HX, hev, hb4⟩
      have hof := open_fine (r := runsL (bl p)) (most := s.size) (by rw [HR.out]) (by rw [HR.out]; show ¬ _ < ((sumR (grp (bl s)) : Nat) : Int); rw [HSZ.out]; omega)
      rw [hof.2] at hev
      have hevn : ev = .nilIface := hev.nil_inv
      subst hevn
      have hxs : x = s := bl_inj (by rw [HX.out, hof.1, HR.out]; exact HG.out.2.1)
      subst hxs
      have hE4 := hE3.ext hb4
      have hT4 := hT3.ext hb4
      have hbb4 := hbb3.trans (hb4.mono hbb3.size)
      clear hev hb4 hE3 hT3 hbb3 HX hof
      go_wp2_with fail
      refine (press_any x w4 (by omega) hT4).mono ?_
      rintro e w5 ⟨q, rfl, HQ, hb5⟩
      have hpq : q = p := bl_inj (HQ.out.trans HP.out.symm)
      subst hpq
      have hE5 := hE4.ext hb5
      have hT5 := hT4.ext hb5
      have hbb5 := hbb4.trans (hb5.mono hbb4.size)
      clear hb5 hE4 hT4 hbb4 HQ
      by_cases hm : most < (x.size : Int)
      · go_wp2_with fail
        refine (open_any q most w5 (by omega) (by omega) hE5).mono ?_
        rintro e w6 ⟨y, ev, rfl, HY, hev, hb6⟩
        have hof := open_much (r := runsL (bl q)) (most := most) (by rw [HR.out]) (by rw [HR.out]; show _ < ((sumR (grp (bl x)) : Nat) : Int); rw [HSZ.out]; exact hm)
        rw [hof.2] at hev
        have hy : y = ⟨#[]⟩ := bl_inj (by rw [HY.out, hof.1]; rfl)
        subst hy
        have hE6 := hE5.ext hb6
        have hT6 := hT5.ext hb6
        have hbb6 := hbb5.trans (hb6.mono hbb5.size)
        have hcb : codedB (Er.base 8) 8 = true := by simp [codedB]
        clear hb6 hE5 hT5 hbb5 HY hof
        go_wp2_with fail
        refine (coded_any hE6 hev 8).mono ?_
        rintro e w7 ⟨rfl, hb7⟩
        rw [hcb]
        have hE7 := hE6.ext hb7
        have hT7 := hT6.ext hb7
        have hbb7 := hbb6.trans (hb7.mono hbb6.size)
        clear hb7 hE6 hT6 hbb6 hev hcb
        go_wp2_with fail
        refine (press_any t _ (by omega) hT7).mono ?_
        rintro e w8 ⟨pt, rfl, HT, hb8⟩
        have hE8 := hE7.ext hb8
        have hbb8 := hbb7.trans (hb8.mono hbb7.size)
        have hpt : pt.size ≤ 11500 := by
          have := pressL_len (bl t) (by rw [bl_length]; omega)
          rw [bl_length, ← HT.out, bl_length] at this; omega
        have HR2 : Hid (runsL (bl (q ++ pt)) = (grp (bl x) ++ grp (bl t), none)) := by
          show _ = _; rw [bl_append, HT.out, HP.out]; exact runs_of_two _ _ (by rw [bl_length]; omega) (by rw [bl_length]; omega)
        have HS2 : Hid (sumR (grp (bl x) ++ grp (bl t)) = x.size + t.size) := by show _ = _; rw [sumR_append, (grp_sum (bl x)).1, (grp_sum (bl t)).1, bl_length, bl_length]
        have hqs : (q ++ pt).size ≤ 23000 := by rw [← bl_length, bl_append, List.length_append, bl_length, bl_length]; omega
        have HO2 : Hid (openR (grp (bl x) ++ grp (bl t)) = bl (x ++ t)) := by show _ = _; rw [openR_append, (grp_sum (bl x)).2.1, (grp_sum (bl t)).2.1, bl_append]
        clear hb8 hE7 hT7 hbb7 HT
        go_wp2_with fail
        refine (open_any (q ++ pt) ((x.size : Int) + t.size) w8 (by omega) (by omega) hE8).mono ?_
        rintro e w9 ⟨z, ev, rfl, HZ, hev, hb9⟩
        have hof := open_fine (r := runsL (bl (q ++ pt))) (most := (x.size : Int) + t.size) (by rw [HR2.out]) (by rw [HR2.out]; show ¬ _ < ((sumR (grp (bl x) ++ grp (bl t)) : Nat) : Int); rw [HS2.out]; omega)
        rw [hof.2] at hev
        have hevn : ev = .nilIface := hev.nil_inv
        subst hevn
        have hz : z = x ++ t := bl_inj (by rw [HZ.out, hof.1, HR2.out]; exact HO2.out)
        subst hz
        have hbb9 := hbb8.trans (hb9.mono hbb8.size)
        clear hev hb9 hE8 hbb8 HZ hof HR2 HS2 HO2
        go_wp2_with fail
        go_ret
        exact ⟨rfl, hbb9⟩
      · have hE7 := hE5
        have hT7 := hT5
        have hbb7 := hbb5
        clear hE5 hT5 hbb5
        go_wp2_with fail
        refine (press_any t _ (by omega) hT7).mono ?_
        rintro e w8 ⟨pt, rfl, HT, hb8⟩
        have hE8 := hE7.ext hb8
        have hbb8 := hbb7.trans (hb8.mono hbb7.size)
        have hpt : pt.size ≤ 11500 := by
          have := pressL_len (bl t) (by rw [bl_length]; omega)
          rw [bl_length, ← HT.out, bl_length] at this; omega
        have HR2 : Hid (runsL (bl (q ++ pt)) = (grp (bl x) ++ grp (bl t), none)) := by
          show _ = _; rw [bl_append, HT.out, HP.out]; exact runs_of_two _ _ (by rw [bl_length]; omega) (by rw [bl_length]; omega)
        have HS2 : Hid (sumR (grp (bl x) ++ grp (bl t)) = x.size + t.size) := by show _ = _; rw [sumR_append, (grp_sum (bl x)).1, (grp_sum (bl t)).1, bl_length, bl_length]
        have hqs : (q ++ pt).size ≤ 23000 := by rw [← bl_length, bl_append, List.length_append, bl_length, bl_length]; omega
        have HO2 : Hid (openR (grp (bl x) ++ grp (bl t)) = bl (x ++ t)) := by show _ = _; rw [openR_append, (grp_sum (bl x)).2.1, (grp_sum (bl t)).2.1, bl_append]
        clear hb8 hE7 hT7 hbb7 HT
        go_wp2_with fail
        refine (open_any (q ++ pt) ((x.size : Int) + t.size) w8 (by omega) (by omega) hE8).mono ?_
        rintro e w9 ⟨z, ev, rfl, HZ, hev, hb9⟩
        have hof := open_fine (r := runsL (bl (q ++ pt))) (most := (x.size : Int) + t.size) (by rw [HR2.out]) (by rw [HR2.out]; show ¬ _ < ((sumR (grp (bl x) ++ grp (bl t)) : Nat) : Int); rw [HS2.out]; omega)
        rw [hof.2] at hev
        have hevn : ev = .nilIface := hev.nil_inv
        subst hevn
        have hz : z = x ++ t := bl_inj (by rw [HZ.out, hof.1, HR2.out]; exact HO2.out)
        subst hz
        have hbb9 := hbb8.trans (hb9.mono hbb8.size)
        clear hev hb9 hE8 hbb8 HZ hof HR2 HS2 HO2
        go_wp2_with fail
        go_ret
        exact ⟨rfl, hbb9⟩
    · have ht' : 500 < (t.size : Int) := by omega
      clear hE1 hT1 htt
      go_wp2_with fail
      go_ret
      exact ⟨rfl, hb1⟩
  · have hs' : 500 < (s.size : Int) := by omega
    clear hE1 hT1 hs
    go_wp2_with fail
    go_ret
    exact ⟨rfl, hb1⟩
end Go.Proofs.YtkglpgbpfngafaaDoor
