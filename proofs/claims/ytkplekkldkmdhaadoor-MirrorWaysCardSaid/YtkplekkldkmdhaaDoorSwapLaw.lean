/- chandlerylaw2.LinkSwaps: the walk. -/
import Derived.Test.YtkplekkldkmdhaaDoorLinkOf
namespace Go.Proofs.YtkplekkldkmdhaaDoor
open Go Go.RowKit

set_option maxRecDepth 100000 in
theorem refBegins_any (s p : ByteArray) (w : World) : Calls Tryd.prog 14 #[.string s, .string p] w fun e w' => e = .returned (.bool (Lib.hasPrefix (bl s) (bl p))) ∧ w = w' := by
  have hp : Lib.hasPrefix (bl s) (bl p) = (decide (p.size ≤ s.size) && ((bl s).take p.size == bl p)) := by
    rw [← bl_length p, ← bl_length s]
    exact (Lib.hasPrefix_of_take _ _).symm
  by_cases h : p.size ≤ s.size
  · have e1 : Lib.hasPrefix (bl s) (bl p) = ((bl s).take p.size == bl p) := by rw [hp, decide_eq_true h]; rfl
    have HE := Lib.hid e1
    have HX : Hid ((s.extract 0 p.size).toList = (bl s).take p.size) := by
      show _ = _
      rw [toList_bl]; show (s.extract 0 p.size).data.toList = _
      rw [ByteArray.data_extract, Array.toList_extract, List.extract_eq_take_drop]; simp; rfl
    have sl := slice_to s (p.size : Int) p.size h rfl
    clear hp e1
    go_enter Tryd.func14, Tryd.ntmps14
    go_wp2_with fail
    go_ret
    refine ⟨?_, rfl⟩
    show Ending.returned (Value.bool ((s.extract 0 p.size).toList == p.toList)) = _
    rw [HX.out, toList_bl, HE.out]
  · have e1 : Lib.hasPrefix (bl s) (bl p) = false := by rw [hp, decide_eq_false h]; rfl
    have HE := Lib.hid e1
    clear hp e1
    go_enter Tryd.func14, Tryd.ntmps14
    go_wp2_with fail
    go_ret
    exact ⟨by rw [HE.out]; rfl, rfl⟩

set_option maxRecDepth 100000 in
theorem linked_any {E : Nat → Addr} (w : World) (hE : LEnv E w) : Calls Tryd.prog 10 #[] w fun e w' => e = .returned (.bool true) ∧ Below w.heap.size w w' := by
  have s1 : swapE [104, 116, 116, 112, 58, 47, 47, 97, 47, 120, 47] [102, 116, 112, 58, 47, 47, 98, 47] [104, 116, 116, 112, 58, 47, 47, 97, 47, 120, 47, 121] = 0 := by decide +kernel
  have s2 : swapT [104, 116, 116, 112, 58, 47, 47, 97, 47, 120, 47] [102, 116, 112, 58, 47, 47, 98, 47] [104, 116, 116, 112, 58, 47, 47, 97, 47, 120, 47, 121] = [102, 116, 112, 58, 47, 47, 98, 47, 121] := by decide +kernel
  have s3 : linkE [104, 116, 116, 112, 58, 47, 47, 97, 47, 120, 47, 121] = 0 := by decide +kernel
  have s4 : lkH [104, 116, 116, 112, 58, 47, 47, 97, 47, 120, 47, 121] = [97] := by decide +kernel
  have S1 := Lib.hid s1; have S2 := Lib.hid s2; have S3 := Lib.hid s3; have S4 := Lib.hid s4
  clear s1 s2 s3 s4
  have C := Lib.hid (swap_any ⟨#[104, 116, 116, 112, 58, 47, 47, 97, 47, 120, 47]⟩ ⟨#[102, 116, 112, 58, 47, 47, 98, 47]⟩ ⟨#[104, 116, 116, 112, 58, 47, 47, 97, 47, 120, 47, 121]⟩ w (by decide) (by decide) (by decide) hE)
  have HE := Lib.hid hE
  clear hE
  go_enter Tryd.func10, Tryd.ntmps10
  go_wp2_with fail
  refine C.out.mono ?_
  clear C
  rintro e w1 ⟨⟨x, rfl, HX⟩, hb⟩
  have e1 : errV E (swapE (bl ⟨#[104, 116, 116, 112, 58, 47, 47, 97, 47, 120, 47]⟩) (bl ⟨#[102, 116, 112, 58, 47, 47, 98, 47]⟩) (bl ⟨#[104, 116, 116, 112, 58, 47, 47, 97, 47, 120, 47, 121]⟩)) = .nilIface :=
    congrArg (errV E) S1.out
  rw [e1]
  have hx : x = ⟨#[102, 116, 112, 58, 47, 47, 98, 47, 121]⟩ := blInj (HX.out.trans S2.out)
  subst hx
  clear e1 HX
  have C := Lib.hid (linkHost_any ⟨#[104, 116, 116, 112, 58, 47, 47, 97, 47, 120, 47, 121]⟩ w1 (by decide) (HE.out.ext hb))
  go_wp2_with fail
  refine C.out.mono ?_
  clear C
  rintro e w2 ⟨⟨h, rfl, HH⟩, hb2⟩
  have e1 : errV E (linkE (bl ⟨#[104, 116, 116, 112, 58, 47, 47, 97, 47, 120, 47, 121]⟩)) = .nilIface := congrArg (errV E) S3.out
  rw [e1]
  have hh : h = ⟨#[97]⟩ := blInj (HH.out.trans (by
    show (if linkE [104, 116, 116, 112, 58, 47, 47, 97, 47, 120, 47, 121] = 0 then lkH [104, 116, 116, 112, 58, 47, 47, 97, 47, 120, 47, 121] else []) = [97]
    rw [S3.out, S4.out]; rfl))
  subst hh
  clear e1 HH
  go_wp2_with fail
  go_ret
  exact ⟨rfl, hb.trans (hb2.mono hb.size)⟩

/-- What is put for what leads a link is empty where there is an error. -/
theorem swap_none {f t s x : ByteArray} {c : Nat} (h : swapE (bl f) (bl t) (bl s) = c + 1) (hx : bl x = swapT (bl f) (bl t) (bl s)) : x = ⟨#[]⟩ :=
  blInj (hx.trans (by unfold swapT; rw [h]; rfl))

set_option maxHeartbeats 1000000 in
set_option maxRecDepth 100000 in
theorem linkSwaps_walk {E : Nat → Addr} {w : World} (hE : LEnv E w) (s f t : ByteArray) :
    Calls Tryd.prog 3 #[.string s, .string f, .string t] w fun e w' => e = .returned (.bool true) ∧ Below w.heap.size w w' := by
  have C := Lib.hid (linked_any w hE)
  have HE := Lib.hid hE
  clear hE
  go_enter Tryd.func3, Tryd.ntmps3
  go_wp2_with fail
  refine C.out.mono ?_
  clear C
  rintro e w1 ⟨rfl, b1⟩
  by_cases ls : s.size ≤ 120
  · by_cases lf : f.size ≤ 120
    · by_cases lt : t.size ≤ 120
      · have C := Lib.hid (linkCheck_any s w1 (by omega) (HE.out.ext b1))
        go_wp2_with fail
        refine C.out.mono ?_
        clear C
        rintro e w2 ⟨rfl, hb⟩
        have b2 := b1.trans (hb.mono b1.size)
        clear hb
        obtain ⟨c, hc⟩ : ∃ c, linkE (bl s) = c := ⟨_, rfl⟩
        rw [hc]
        cases c with
        | succ c =>
          rw [show errV E (c + 1) = sentV E c from rfl]
          have C := Lib.hid (swap_any f t s w2 (by omega) (by omega) (by omega) (HE.out.ext b2))
          obtain ⟨k, hk⟩ : ∃ k, swapE (bl f) (bl t) (bl s) = k + 1 := by
            cases h : swapE (bl f) (bl t) (bl s) with
            | zero => have := (swapE_ok h).2.2.1; omega
            | succ k => exact ⟨k, rfl⟩
          have HK := Lib.hid hk
          clear hc hk
          go_wp2_with fail
          refine C.out.mono ?_
          clear C
          rintro e w3 ⟨⟨x, rfl, HX⟩, hb⟩
          obtain rfl := swap_none HK.out HX.out
          rw [HK.out, show errV E (k + 1) = sentV E k from rfl]
          go_wp2_with fail
          go_ret
          exact ⟨rfl, b2.trans (hb.mono b2.size)⟩
        | zero =>
          rw [show errV E 0 = .nilIface from rfl]
          have HC := Lib.hid hc
          clear hc
          have C := Lib.hid (swap_any s s s w2 (by omega) (by omega) (by omega) (HE.out.ext b2))
          go_wp2_with fail
          refine C.out.mono ?_
          clear C
          rintro e w3 ⟨⟨x, rfl, HX⟩, hb⟩
          have b3 := b2.trans (hb.mono b2.size)
          clear hb
          rw [(swap_self HC.out).1, show errV E 0 = .nilIface from rfl]
          obtain rfl : x = s := blInj (HX.out.trans (swap_self HC.out).2)
          clear HX
          have C := Lib.hid (linkBegins_any x w3 (by omega) (HE.out.ext b3))
          go_wp2_with fail
          refine C.out.mono ?_
          clear C
          rintro e w4 ⟨rfl, hb⟩
          have b4 := b3.trans (hb.mono b3.size)
          clear hb
          rw [begin_of_link HC.out, show errV E 0 = .nilIface from rfl]
          have C := Lib.hid (swap_any f t x w4 (by omega) (by omega) (by omega) (HE.out.ext b4))
          go_wp2_with fail
          refine C.out.mono ?_
          clear C
          rintro e w5 ⟨⟨y, rfl, HY⟩, hb⟩
          have b5 := b4.trans (hb.mono b4.size)
          clear hb
          obtain ⟨k, hk⟩ : ∃ k, swapE (bl f) (bl t) (bl x) = k := ⟨_, rfl⟩
          rw [hk]
          cases k with
          | succ k =>
            obtain rfl := swap_none hk HY.out
            clear HY hk
            rw [show errV E (k + 1) = sentV E k from rfl]
            go_wp2_with fail
            go_ret
            exact ⟨rfl, b5⟩
          | zero =>
            obtain ⟨g1, g2, g3, g4⟩ := swap_back hk
            have ly := swapT_len (bl f) (bl t) (bl x)
            rw [← HY.out] at g1 g2 g3 g4 ly
            rw [bl_length, bl_length, bl_length] at ly
            have G1 := Lib.hid g1; have G2 := Lib.hid g2; have G3 := Lib.hid g3; have G4 := Lib.hid g4
            clear g1 g2 g3 g4 hk HY
            rw [show errV E 0 = .nilIface from rfl]
            have C := Lib.hid (swap_any t f y w5 (by omega) (by omega) (by omega) (HE.out.ext b5))
            go_wp2_with fail
            refine C.out.mono ?_
            clear C
            rintro e w6 ⟨⟨z, rfl, HZ⟩, hb⟩
            have b6 := b5.trans (hb.mono b5.size)
            clear hb
            obtain rfl : z = x := blInj (HZ.out.trans G2.out)
            clear HZ G2
            rw [G1.out, show errV E 0 = .nilIface from rfl]
            have C := Lib.hid (linkCheck_any y w6 (by omega) (HE.out.ext b6))
            go_wp2_with fail
            refine C.out.mono ?_
            clear C
            rintro e w7 ⟨rfl, hb⟩
            have b7 := b6.trans (hb.mono b6.size)
            clear hb
            rw [G3.out, show errV E 0 = .nilIface from rfl]
            go_wp2_with fail
            refine (refBegins_any y t w7).mono ?_
            rintro e w8 ⟨rfl, rfl⟩
            rw [G4.out]
            go_wp2_with fail
            go_ret
            exact ⟨rfl, b7⟩
      · go_wp2_with fail
        go_ret
        exact ⟨rfl, b1⟩
    · go_wp2_with fail
      go_ret
      exact ⟨rfl, b1⟩
  · go_wp2_with fail
    go_ret
    exact ⟨rfl, b1⟩
end Go.Proofs.YtkplekkldkmdhaaDoor
