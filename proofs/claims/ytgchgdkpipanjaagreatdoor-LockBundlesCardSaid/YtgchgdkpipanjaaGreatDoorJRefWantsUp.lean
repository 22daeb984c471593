/- The reference's WantError: the contract. The reference's WantText: the contract. -/
import Derived.Test.YtgchgdkpipanjaaGreatDoorJWantsUp
import Derived.Test.YtgchgdkpipanjaaGreatDoorJRefLinkUp
import Derived.Test.YtgchgdkpipanjaaGreatDoorJSummed
import Derived.Test.YtgchgdkpipanjaaGreatDoorJTexts
namespace Go.Proofs.YtgchgdkpipanjaaGreatDoor
open Go Go.RowKit

theorem posN {c : Nat} : (0 : Int) < ((c + 1 : Nat) : Int) := by omega

set_option maxHeartbeats 2000000 in
set_option maxRecDepth 100000 in
theorem refWantError_any (x : WantB) (w : World) (hn : x.name.size ≤ 1000000) (hu : x.url.size ≤ 100000) :
    Calls Tryz.prog 69 #[.agg #[.string x.name, .string x.url, .string x.kind, .int .i64 x.strip, .int .i64 x.sum]] w fun e w' => e = .returned (.int .i64 (wantE x)) ∧ Below w.heap.size w w' := by
  obtain ⟨px, hpx⟩ : ∃ px, w.heap.size = px := ⟨_, rfl⟩
  obtain ⟨wx, hwx⟩ : ∃ wx, w.alloc (.cells #[.string x.name, .string x.url, .string x.kind, .int .i64 x.strip, .int .i64 x.sum] 41) = wx := ⟨_, rfl⟩
  have hbx : Below w.heap.size w wx := by rw [← hwx]; exact (Below.refl _ _).alloc (Nat.le_refl _) _
  have BX := Lib.hid (show WBox wx px x by rw [← hwx, ← hpx]; exact WBox.new w x)
  have HB := Lib.hid hbx
  have HWX := Lib.hid hwx
  have HPX := Lib.hid hpx
  have K1 := Lib.hid (@wantE_name x)
  have K2 := Lib.hid (fun c => @wantE_url x c)
  have K3 := Lib.hid (@wantE_from x)
  obtain ⟨c0, _, _, _, _⟩ := BX.out.cells
  clear hpx hwx hbx
  go_enter Tryz.func69, Tryz.ntmps69
  go_upto_region 1 with fail
  rw [HWX.out, HPX.out]
  go_wp2_with fail
  refine (refIsPart_any x.name wx (by omega)).mono ?_
  rintro e w1 ⟨rfl, hb1⟩
  have B1 := Lib.hid (HB.out.trans (hb1.mono HB.out.size))
  have BX1 := Lib.hid (BX.out.ext hb1)
  clear hb1 c0
  cases hp : partB (bl x.name) with
  | false =>
    have HX := Lib.hid (K1.out hp)
    clear hp
    go_wp2_with fail
    go_ret
    exact ⟨by rw [HX.out]; rfl, B1.out⟩
  | true =>
    obtain ⟨_, c1, _, _, _⟩ := BX1.out.cells
    have HP := Lib.hid hp
    clear hp
    go_wp2_with fail
    refine (refLinkError_any x.url w1 hu).mono ?_
    rintro e w2 ⟨rfl, hb2⟩
    have B2 := Lib.hid (B1.out.trans (hb2.mono B1.out.size))
    have BX2 := Lib.hid (BX1.out.ext hb2)
    clear hb2 c1
    obtain ⟨ln, hl⟩ : ∃ ln, linkE (bl x.url) = ln := ⟨_, rfl⟩
    rw [hl]
    cases ln with
    | succ c =>
      have HX := Lib.hid (K2.out c HP.out hl)
      clear hl
      have hpos := @posN c
      generalize hnn : ((c + 1 : Nat) : Int) = n at hpos
      have HN := Lib.hid hnn
      clear hnn
      go_wp2_with fail
      go_ret
      exact ⟨by rw [HX.out, HN.out]; rfl, B2.out⟩
    | zero =>
      have HX := Lib.hid (K3.out HP.out hl)
      rw [show ((0 : Nat) : Int) = 0 from rfl]
      obtain ⟨_, _, c2, _, _⟩ := BX2.out.cells
      have RW : Row encStr 1 (w2.alloc (.cells #[.string ⟨#[112, 108, 97, 105, 110]⟩, .string ⟨#[112, 97, 99, 107]⟩, .string ⟨#[112, 114, 101, 115, 115]⟩] 9)) (.slice (some ⟨w2.heap.size, 0, none⟩) 3 3) wkindsB :=
        Row.block1 Value.string w2 wkindsB 9 (by rw [maxLen_eq]; decide) w2.heap.size 3 rfl rfl
      have HK := Lib.hid (refInTexts_any x.kind RW (by decide))
      clear hl K1 K2 K3 RW
      go_wp2_with fail
      refine HK.out.mono ?_
      clear HK
      rintro e w3 ⟨rfl, hb3⟩
      have b3 : Below w2.heap.size w2 w3 := ((Below.refl _ w2).alloc (Nat.le_refl _) _).trans (hb3.mono (by simp))
      have B3 := Lib.hid (B2.out.trans (b3.mono B2.out.size))
      have BX3 := Lib.hid (BX2.out.ext b3)
      obtain ⟨_, _, d2, d3, d4⟩ := BX3.out.cells
      clear hb3 b3 c2
      rw [show wkindsB.map bl = wkinds from rfl]
      cases hk : wkinds.contains (bl x.kind) with
      | false =>
        have HY : Hid (wantE x = 4) := by show _ = _; rw [HX.out, if_pos hk]
        clear hk
        go_wp2_with fail
        go_ret
        exact ⟨by rw [HY.out]; rfl, B3.out⟩
      | true =>
        have HY := HX.out
        rw [if_neg (by rw [hk]; simp)] at HY
        have HX2 := Lib.hid HY
        clear hk HY HX
        by_cases h0 : x.strip < 0
        · have HZ : Hid (wantE x = 2) := by show _ = _; rw [HX2.out, if_pos (.inl h0)]
          go_wp2_with fail
          go_ret
          exact ⟨by rw [HZ.out]; rfl, B3.out⟩
        · by_cases h6 : 6 < x.strip
          · have HZ : Hid (wantE x = 2) := by show _ = _; rw [HX2.out, if_pos (.inr h6)]
            go_wp2_with fail
            go_ret
            exact ⟨by rw [HZ.out]; rfl, B3.out⟩
          · have HY := HX2.out
            rw [if_neg (by omega)] at HY
            have HX3 := Lib.hid HY
            clear HY HX2
            have q := kind_eqb x.kind
            by_cases hkp : bl x.kind = kPlain
            · rw [decide_eq_true hkp] at q
              by_cases hs0 : x.strip = 0
              · have HY : Hid (wantE x = if rightB x.sum = false then 2 else 0) := by show _ = _; rw [HX3.out, if_neg (fun e => e.2 hs0)]
                have q0 : (x.strip == 0) = true := by rw [hs0]; rfl
                clear hkp hs0 HX3
                go_wp2_with fail
                refine (isSum_any _ _).mono ?_
                rintro e w4 ⟨rfl, rfl⟩
                cases hr : rightB x.sum with
                | false =>
                  have HZ : Hid (wantE x = 2) := by show _ = _; rw [HY.out, if_pos hr]
                  clear hr
                  go_wp2_with fail
                  go_ret
                  exact ⟨by rw [HZ.out]; rfl, B3.out⟩
                | true =>
                  have HZ : Hid (wantE x = 0) := by show _ = _; rw [HY.out, if_neg (by rw [hr]; simp)]
                  clear hr
                  go_wp2_with fail
                  go_ret
                  exact ⟨by rw [HZ.out]; rfl, B3.out⟩
              · have HZ : Hid (wantE x = 3) := by show _ = _; rw [HX3.out, if_pos ⟨hkp, hs0⟩]
                have q0 : (x.strip == 0) = false := beq_eq_false_iff_ne.2 hs0
                clear hkp hs0 HX3
                go_wp2_with fail
                go_ret
                exact ⟨by rw [HZ.out]; rfl, B3.out⟩
            · rw [decide_eq_false hkp] at q
              have HY : Hid (wantE x = if rightB x.sum = false then 2 else 0) := by show _ = _; rw [HX3.out, if_neg (fun e => hkp e.1)]
              clear hkp HX3
              go_wp2_with fail
              refine (isSum_any _ _).mono ?_
              rintro e w4 ⟨rfl, rfl⟩
              cases hr : rightB x.sum with
              | false =>
                have HZ : Hid (wantE x = 2) := by show _ = _; rw [HY.out, if_pos hr]
                clear hr
                go_wp2_with fail
                go_ret
                exact ⟨by rw [HZ.out]; rfl, B3.out⟩
              | true =>
                have HZ : Hid (wantE x = 0) := by show _ = _; rw [HY.out, if_neg (by rw [hr]; simp)]
                clear hr
                go_wp2_with fail
                go_ret
                exact ⟨by rw [HZ.out]; rfl, B3.out⟩
end Go.Proofs.YtgchgdkpipanjaaGreatDoor

namespace Go.Proofs.YtgchgdkpipanjaaGreatDoor
open Go Go.RowKit

end Go.Proofs.YtgchgdkpipanjaaGreatDoor
