/- The reference's WantError: the contract. The reference's WantText: the contract. The reference's ReadWant: the contract. -/
import Derived.Test.YtgchgdkpipanjaaGreatDoorKWantsUp
import Derived.Test.YtgchgdkpipanjaaGreatDoorKRefLinkUp
import Derived.Test.YtgchgdkpipanjaaGreatDoorKSummed
import Derived.Test.YtgchgdkpipanjaaGreatDoorKTexts
import Derived.Test.YtgchgdkpipanjaaGreatDoorKRefPathed
namespace Go.Proofs.YtgchgdkpipanjaaGreatDoor
open Go Go.RowKit

theorem posN {c : Nat} : (0 : Int) < ((c + 1 : Nat) : Int) := by omega

set_option maxHeartbeats 2000000 in
set_option maxRecDepth 100000 in
theorem refWantError_any (x : WantB) (w : World) (hn : x.name.size ≤ 1000000) (hu : x.url.size ≤ 100000) :
    Calls Tryz.prog 69 #[.agg #[.string x.name, .string x.url, .string x.kind, .int .i64 x.strip, .int .i64 x.sum]] w fun e w' => e = .returned (.int .i64 (wantE x)) ∧ Below w.heap.size w w' := by
  obtain ⟨px, hpx⟩ : ∃ px, w.heap.size = px := ⟨_, rfl⟩
  obtain ⟨wx, hwx⟩ : ∃ wx, w.alloc (.cells #[.string x.name, .string x.url, .string x.kind, .int .i64 x.strip, .int .i64 x.sum] 41) = wx := ⟨_, rfl⟩
  have hbx : Below w.heap.size w wx := by rw [← hwx]; exact (Below.refl _ _).alloc (Nat.le_refl _) _
  have BX := Lib.hid (show WBox wx px x by rw [← hwx, ← hpx]; exact WBox.new w x)
  have HB := Lib.hid hbx
  have HWX := Lib.hid hwx
  have HPX := Lib.hid hpx
  have K1 := Lib.hid (@wantE_name x)
  have K2 := Lib.hid (fun c => @wantE_url x c)
  have K3 := Lib.hid (@wantE_from x)
  obtain ⟨c0, _, _, _, _⟩ := BX.out.cells
  clear hpx hwx hbx
  go_enter Tryz.func69, Tryz.ntmps69
  go_upto_region 1 with fail
  rw [HWX.out, HPX.out]
  go_wp2_with fail
  refine (refIsPart_any x.name wx (by omega)).mono ?_
  rintro e w1 ⟨rfl, hb1⟩
  have B1 := Lib.hid (HB.out.trans (hb1.mono HB.out.size))
  have BX1 := Lib.hid (BX.out.ext hb1)
  clear hb1 c0
  cases hp : partB (bl x.name) with
  | false =>
    have HX := Lib.hid (K1.out hp)
    clear hp
    go_wp2_with fail
    go_ret
    exact ⟨by rw [HX.out]; rfl, B1.out⟩
  | true =>
    obtain ⟨_, c1, _, _, _⟩ := BX1.out.cells
    have HP := Lib.hid hp
    clear hp
    go_wp2_with fail
    refine (refLinkError_any x.url w1 hu).mono ?_
    rintro e w2 ⟨rfl, hb2⟩
    have B2 := Lib.hid (B1.out.trans (hb2.mono B1.out.size))
    have BX2 := Lib.hid (BX1.out.ext hb2)
    clear hb2 c1
    obtain ⟨ln, hl⟩ : ∃ ln, linkE (bl x.url) = ln := ⟨_, rfl⟩
    rw [hl]
    cases ln with
    | succ c =>
      have HX := Lib.hid (K2.out c HP.out hl)
      clear hl
      have hpos := @posN c
      generalize hnn : ((c + 1 : Nat) : Int) = n at hpos
      have HN := Lib.hid hnn
      clear hnn
      go_wp2_with fail
      go_ret
      exact ⟨by rw [HX.out, HN.out]; rfl, B2.out⟩
    | zero =>
      have HX := Lib.hid (K3.out HP.out hl)
      rw [show ((0 : Nat) : Int) = 0 from rfl]
      obtain ⟨_, _, c2, _, _⟩ := BX2.out.cells
      have RW : Row encStr 1 (w2.alloc (.cells #[.string ⟨#[112, 108, 97, 105, 110]⟩, .string ⟨#[112, 97, 99, 107]⟩, .string ⟨#[112, 114, 101, 115, 115]⟩] 9)) (.slice (some ⟨w2.heap.size, 0, none⟩) 3 3) wkindsB :=
        Row.block1 Value.string w2 wkindsB 9 (by rw [maxLen_eq]; decide) w2.heap.size 3 rfl rfl
      have HK := Lib.hid (refInTexts_any x.kind RW (by decide))
      clear hl K1 K2 K3 RW
      go_wp2_with fail
      refine HK.out.mono ?_
      clear HK
      rintro e w3 ⟨rfl, hb3⟩
      have b3 : Below w2.heap.size w2 w3 := ((Below.refl _ w2).alloc (Nat.le_refl _) _).trans (hb3.mono (by simp))
      have B3 := Lib.hid (B2.out.trans (b3.mono B2.out.size))
      have BX3 := Lib.hid (BX2.out.ext b3)
      obtain ⟨_, _, d2, d3, d4⟩ := BX3.out.cells
      clear hb3 b3 c2
      rw [show wkindsB.map bl = wkinds from rfl]
      cases hk : wkinds.contains (bl x.kind) with
      | false =>
        have HY : Hid (wantE x = 4) := by show _ = _; rw [HX.out, if_pos hk]
        clear hk
        go_wp2_with fail
        go_ret
        exact ⟨by rw [HY.out]; rfl, B3.out⟩
      | true =>
        have HY := HX.out
        rw [if_neg (by rw [hk]; simp)] at HY
        have HX2 := Lib.hid HY
        clear hk HY HX
        by_cases h0 : x.strip < 0
        · have HZ : Hid (wantE x = 2) := by show _ = _; rw [HX2.out, if_pos (.inl h0)]
          go_wp2_with fail
          go_ret
          exact ⟨by rw [HZ.out]; rfl, B3.out⟩
        · by_cases h6 : 6 < x.strip
          · have HZ : Hid (wantE x = 2) := by show _ = _; rw [HX2.out, if_pos (.inr h6)]
            go_wp2_with fail
            go_ret
            exact ⟨by rw [HZ.out]; rfl, B3.out⟩
          · have HY := HX2.out
            rw [if_neg (by omega)] at HY
            have HX3 := Lib.hid HY
            clear HY HX2
            have q := kind_eqb x.kind
            by_cases hkp : bl x.kind = kPlain
            · rw [decide_eq_true hkp] at q
              by_cases hs0 : x.strip = 0
              · have HY : Hid (wantE x = if rightB x.sum = false then 2 else 0) := by show _ = _; rw [HX3.out, if_neg (fun e => e.2 hs0)]
                have q0 : (x.strip == 0) = true := by rw [hs0]; rfl
                clear hkp hs0 HX3
                go_wp2_with fail
                refine (isSum_any _ _).mono ?_
                rintro e w4 ⟨rfl, rfl⟩
                cases hr : rightB x.sum with
                | false =>
                  have HZ : Hid (wantE x = 2) := by show _ = _; rw [HY.out, if_pos hr]
                  clear hr
                  go_wp2_with fail
                  go_ret
                  exact ⟨by rw [HZ.out]; rfl, B3.out⟩
                | true =>
                  have HZ : Hid (wantE x = 0) := by show _ = _; rw [HY.out, if_neg (by rw [hr]; simp)]
                  clear hr
                  go_wp2_with fail
                  go_ret
                  exact ⟨by rw [HZ.out]; rfl, B3.out⟩
              · have HZ : Hid (wantE x = 3) := by show _ = _; rw [HX3.out, if_pos ⟨hkp, hs0⟩]
                have q0 : (x.strip == 0) = false := beq_eq_false_iff_ne.2 hs0
                clear hkp hs0 HX3
                go_wp2_with fail
                go_ret
                exact ⟨by rw [HZ.out]; rfl, B3.out⟩
            · rw [decide_eq_false hkp] at q
              have HY : Hid (wantE x = if rightB x.sum = false then 2 else 0) := by show _ = _; rw [HX3.out, if_neg (fun e => hkp e.1)]
              clear hkp HX3
              go_wp2_with fail
              refine (isSum_any _ _).mono ?_
              rintro e w4 ⟨rfl, rfl⟩
              cases hr : rightB x.sum with
              | false =>
                have HZ : Hid (wantE x = 2) := by show _ = _; rw [HY.out, if_pos hr]
                clear hr
                go_wp2_with fail
                go_ret
                exact ⟨by rw [HZ.out]; rfl, B3.out⟩
              | true =>
                have HZ : Hid (wantE x = 0) := by show _ = _; rw [HY.out, if_neg (by rw [hr]; simp)]
                clear hr
                go_wp2_with fail
                go_ret
                exact ⟨by rw [HZ.out]; rfl, B3.out⟩
end Go.Proofs.YtgchgdkpipanjaaGreatDoor

namespace Go.Proofs.YtgchgdkpipanjaaGreatDoor
open Go Go.RowKit

theorem want_bl (a b c t u : ByteArray) : bl (a ++ { data := #[32] } ++ b ++ { data := #[32] } ++ c ++ { data := #[32] } ++ t ++ { data := #[32] } ++ u) = bl a ++ 32 :: (bl b ++ 32 :: (bl c ++ 32 :: (bl t ++ 32 :: bl u))) := by
  simp only [bl_append]
  rw [show bl { data := #[32] } = [32] from rfl]
  simp
theorem dec_len {n : Nat} (h : n < 10000000000) : (Lib.decDigits n).length ≤ 10 := decDigits_len_le 9 n h

set_option maxHeartbeats 4000000 in
set_option maxRecDepth 100000 in
theorem refWantText_any (x : WantB) (w : World) (hn : x.name.size ≤ 1000000) (hu : x.url.size ≤ 100000) (hk : x.kind.size ≤ 1000000) :
    Calls Tryz.prog 72 #[.agg #[.string x.name, .string x.url, .string x.kind, .int .i64 x.strip, .int .i64 x.sum]] w (TextPost x w) := by
  obtain ⟨px, hpx⟩ : ∃ px, w.heap.size = px := ⟨_, rfl⟩
  obtain ⟨wx, hwx⟩ : ∃ wx, w.alloc (.cells #[.string x.name, .string x.url, .string x.kind, .int .i64 x.strip, .int .i64 x.sum] 41) = wx := ⟨_, rfl⟩
  have hbx : Below w.heap.size w wx := by rw [← hwx]; exact (Below.refl _ _).alloc (Nat.le_refl _) _
  have BX := Lib.hid (show WBox wx px x by rw [← hwx, ← hpx]; exact WBox.new w x)
  have HB := Lib.hid hbx
  have HWX := Lib.hid hwx
  have HPX := Lib.hid hpx
  obtain ⟨c0, c1, c2, c3, c4⟩ := BX.out.cells
  have C := Lib.hid (refWantError_any x wx hn hu)
  clear hpx hwx hbx
  go_enter Tryz.func72, Tryz.ntmps72
  go_upto_region 1 with fail
  rw [HWX.out, HPX.out]
  go_wp2_with fail
  refine C.out.mono ?_
  clear C
  rintro e w1 ⟨rfl, hb1⟩
  have B1 := Lib.hid (HB.out.trans (hb1.mono HB.out.size))
  have BX1 := Lib.hid (BX.out.ext hb1)
  clear hb1 c0 c1 c2 c3 c4
  cases hw : wantE x with
  | succ c =>
    have HX := Lib.hid (wantTx_not hw)
    have hpos := @posN c
    generalize ((c + 1 : Nat) : Int) = n at hpos
    clear hw
    go_wp2_with fail
    go_ret
    exact ⟨⟨_, rfl, by show _ = _; rw [HX.out]; rfl⟩, B1.out⟩
  | zero =>
    have HX := Lib.hid (wantTx_is hw)
    obtain ⟨n1, n2, n3, n4⟩ := want_nums hw
    rw [show ((0 : Nat) : Int) = 0 from rfl]
    clear hw
    obtain ⟨k, hkk⟩ : ∃ k : Nat, x.strip = k := ⟨x.strip.toNat, by omega⟩
    obtain ⟨m, hmm⟩ : ∃ m : Nat, x.sum = m := ⟨x.sum.toNat, by omega⟩
    have hk6 : k ≤ 6 := by omega
    have hm9 : m < 1000000007 := by omega
    have HX2 : Hid (wantTx x = bl x.name ++ 32 :: (bl x.url ++ 32 :: (bl x.kind ++ 32 :: (Lib.decDigits k ++ 32 :: (115 :: Lib.decDigits m))))) := by show _ = _; rw [HX.out, hkk, hmm]; rfl
    have HI : Hid (∀ W, Below w1.heap.size w1 W → Calls Tryz.prog 114 #[.int .i64 k] W fun e w' => ∃ t : ByteArray, e = .returned (.string t) ∧ Hid (bl t = Lib.decDigits k) ∧ t.size ≤ 1000000 ∧ Below w1.heap.size w1 w') := fun W hW => by
      refine (decimal_any k (by omega) W).mono ?_
      rintro e w' ⟨t, rfl, h1, h2, h3⟩
      exact ⟨t, rfl, h1, by omega, hW.trans (h3.mono hW.size)⟩
    have HT : Hid (∀ W, Below w1.heap.size w1 W → Calls Tryz.prog 115 #[.int .i64 m] W fun e w' => ∃ t : ByteArray, e = .returned (.string t) ∧ Hid (bl t = 115 :: Lib.decDigits m) ∧ t.size ≤ 1000000 ∧ Below w1.heap.size w1 w') := fun W hW => by
      refine (refText_ok m hm9 W).mono ?_
      rintro e w' ⟨t, rfl, h1, h3⟩
      exact ⟨t, rfl, h1, by have := dec_len (n := m) (by omega); rw [← bl_length, h1.out, List.length_cons]; omega, hW.trans (h3.mono hW.size)⟩
    have KEEP : Hid (∀ W, Below w1.heap.size w1 W → W.cell? ⟨px, 0, none⟩ = some (.string x.name) ∧ W.cell? ⟨px, 1, none⟩ = some (.string x.url) ∧ W.cell? ⟨px, 2, none⟩ = some (.string x.kind) ∧ W.cell? ⟨px, 3, none⟩ = some (.int .i64 k) ∧ W.cell? ⟨px, 4, none⟩ = some (.int .i64 m)) := fun W hW => by
      have := (BX1.out.ext hW).cells
      rw [hkk, hmm] at this
      exact this
    obtain ⟨c0, c1, c2, c3, c4⟩ := KEEP.out w1 (Below.refl _ _)
    have HXB := Lib.hid (want_bl x.name x.url x.kind)
    clear hkk hmm n1 n2 n3 n4 HX hk6 hm9
    have n1 : ¬ 9223372036854775807 < x.name.size + 1 := by omega
    have n2 : ¬ 9223372036854775807 < x.name.size + 1 + x.url.size := by omega
    have n3 : ¬ 9223372036854775807 < x.name.size + 1 + x.url.size + 1 := by omega
    have n4 : ¬ 9223372036854775807 < x.name.size + 1 + x.url.size + 1 + x.kind.size := by omega
    have n5 : ¬ 9223372036854775807 < x.name.size + 1 + x.url.size + 1 + x.kind.size + 1 := by omega
    go_wp2_with fail
    go_region_held3 (fun W : World => W.cell? ⟨px, 0, none⟩ = some (.string x.name) ∧ W.cell? ⟨px, 1, none⟩ = some (.string x.url) ∧ W.cell? ⟨px, 2, none⟩ = some (.string x.kind) ∧ W.cell? ⟨px, 3, none⟩ = some (.int .i64 k) ∧ W.cell? ⟨px, 4, none⟩ = some (.int .i64 m)) (first | go_keep | exact KEEP.out _ hb5 | exact KEEP.out _ hb6)
      (first
        | (go_at_call 114; refine (HI.out _ (by first | exact (Below.refl _ _).drew | exact hb6)).mono ?_; rintro e w5 ⟨t5, rfl, H5, hs5, hb5⟩
           have n6 : ¬ 9223372036854775807 < x.name.size + 1 + x.url.size + 1 + x.kind.size + 1 + t5.size := by omega
           have n7 : ¬ 9223372036854775807 < x.name.size + 1 + x.url.size + 1 + x.kind.size + 1 + t5.size + 1 := by omega)
        | (go_at_call 115; refine (HT.out _ (by first | exact hb5 | exact (Below.refl _ _).drew)).mono ?_; rintro e w6 ⟨t6, rfl, H6, hs6, hb6⟩
           have n8 : ¬ 9223372036854775807 < x.name.size + 1 + x.url.size + 1 + x.kind.size + 1 + t5.size + 1 + t6.size := by omega))
    go_wp2_with fail
    go_ret
    exact ⟨⟨_, rfl, by show _ = _; rw [HX2.out, ← H5.out, ← H6.out]; exact HXB.out t5 t6⟩, B1.out.trans (hb6.mono B1.out.size)⟩
end Go.Proofs.YtgchgdkpipanjaaGreatDoor

namespace Go.Proofs.YtgchgdkpipanjaaGreatDoor
open Go Go.RowKit

/-- What the reference's ReadWant hands back. -/
def RWReadPost (s : ByteArray) (w : World) (e : Ending) (w' : World) : Prop :=
  e = .returned (.tuple #[wV (readW (bl s)).2, .int .i64 (readW (bl s)).1]) ∧ Below w.heap.size w w'
theorem RWReadPost.of {s : ByteArray} {w w' : World} {c : Nat} {y : WantB} (h : readW (bl s) = (c, y)) (hb : Below w.heap.size w w') :
    RWReadPost s w (.returned (.tuple #[.agg #[.string y.name, .string y.url, .string y.kind, .int .i64 y.strip, .int .i64 y.sum], .int .i64 c])) w' := ⟨by rw [h]; rfl, hb⟩

set_option maxHeartbeats 4000000 in
set_option maxRecDepth 100000 in
theorem refReadWant_any (s : ByteArray) (w : World) (hs : s.size ≤ 100000) :
    Calls Tryz.prog 74 #[.string s] w (RWReadPost s w) := by
  obtain ⟨i0, hi0, hz0, hz1, hz2⟩ := info_parts Tryz.infoWant
  obtain ⟨px, hpx⟩ : ∃ px, w.heap.size = px := ⟨_, rfl⟩
  obtain ⟨wx, hwx⟩ : ∃ wx, w.alloc (.cells #[.string ⟨#[]⟩, .string ⟨#[]⟩, .string ⟨#[]⟩, .int .i64 0, .int .i64 0] 41) = wx := ⟨_, rfl⟩
  have hbx : Below w.heap.size w wx := by rw [← hwx]; exact (Below.refl _ _).alloc (Nat.le_refl _) _
  have BX := Lib.hid (show WBox wx px zeroW by rw [← hwx, ← hpx]; exact WBox.new w zeroW)
  have hpw : w.heap.size ≤ px := Nat.le_of_eq hpx
  have HB := Lib.hid hbx
  have HWX := Lib.hid hwx
  have HPX := Lib.hid hpx
  have C := Lib.hid (refCut_any s 32 wx (by omega))
  clear hpx hwx hbx
  go_enter Tryz.func74, Tryz.ntmps74
  go_wp2_with fail
  rw [HWX.out, HPX.out]
  refine C.out.mono ?_
  clear C
  rintro e w1 ⟨v, zs, rfl, HV, HZ, hl, hb1⟩
  have B1 := Lib.hid (HB.out.trans (hb1.mono HB.out.size))
  have BX1 := Lib.hid (BX.out.ext hb1)
  obtain ⟨ao, cap, rfl, h1, h2, H3⟩ := HV.out.parts
  have HM := Lib.hid H3
  clear hb1 H3 HV
  obtain ⟨c0, c1, c2, c3, c4⟩ := BX1.out.cells
  obtain ⟨f0, f1, f2, f3, f4⟩ := BX1.out.froz
  have W2 := Lib.hid ((BX1.out.store zeroW).cells)
  have B2 := Lib.hid (B1.out.trans (below_wPut w1 zeroW hpw))
  by_cases h5 : zs.length = 5
  rotate_left
  · have HX : Hid (readW (bl s) = (1, zeroW)) := readW_none (fiveW_len (by rw [← HZ.out, List.length_map]; exact h5))
    have hne : ((zs.length : Int) == 5) = false := by rw [beq_eq_false_iff_ne]; omega
    clear h5 HZ HM
    go_wp2_with fail
    obtain ⟨s0, s1, s2, s3, s4⟩ := W2.out
    unfold wPut zeroW at s0 s1 s2 s3 s4
    refine bodyPost_ret (v := .tuple #[.agg #[.string ⟨#[]⟩, .string ⟨#[]⟩, .string ⟨#[]⟩, .int .i64 0, .int .i64 0], .int .i64 (1 : Nat)]) ?_ rfl (RWReadPost.of HX.out B2.out)
    simp [results, Tryz.results74, go_sem, s0, s1, s2, s3, s4]
  · obtain ⟨b, off, rfl, hbl, hcell⟩ := HM.out 0 (by omega)
    obtain ⟨z0, z1, z2, z3, z4, rfl⟩ := five_of h5
    have HP : Hid (cutL 32 (bl s) = [bl z0, bl z1, bl z2, bl z3, bl z4]) := HZ.out.symm
    have a0 : w1.cell? ⟨b, off, none⟩ = some (.string z0) := hcell 0 (by simp)
    have a1 : w1.cell? ⟨b, off + 1, none⟩ = some (.string z1) := hcell 1 (by simp)
    have a2 : w1.cell? ⟨b, off + 2, none⟩ = some (.string z2) := hcell 2 (by simp)
    have a3 : w1.cell? ⟨b, off + 3, none⟩ = some (.string z3) := hcell 3 (by simp)
    have a4 : w1.cell? ⟨b, off + 4, none⟩ = some (.string z4) := hcell 4 (by simp)
    have hsz : ∀ z ∈ [z0, z1, z2, z3, z4], z.size ≤ s.size := fun z hz => by
      have h : bl z ∈ cutL 32 (bl s) := by rw [← HZ.out]; exact List.mem_map.2 ⟨z, hz, rfl⟩
      have := cutL_size 32 (bl s) _ h
      rwa [bl_length, bl_length] at this
    have sz0 := hsz z0 (by simp)
    have sz1 := hsz z1 (by simp)
    have sz3 := hsz z3 (by simp)
    have sz4 := hsz z4 (by simp)
    clear hcell HZ HM h5 hsz
    rw [show ([z0, z1, z2, z3, z4] : List ByteArray).length = 5 from rfl] at h1 ⊢
    have BAD : Hid (fiveW [bl z0, bl z1, bl z2, bl z3, bl z4] = none → readW (bl s) = (1, zeroW)) := fun h => readW_none (by rw [HP.out]; exact h)
    go_wp2_with fail
    refine (numberOf_any z3 1 (by decide) w1 (by omega)).mono ?_
    rintro e w' ⟨rfl, rfl⟩
    cases hk : numOf (bl z3) 1 with
    | none =>
      have HX := Lib.hid (BAD.out (fiveW_no4 hk))
      rw [show numI none = -1 from rfl]
      clear hk BAD
      go_wp2_with fail
      refine (readSum_any z4 w1 (by omega)).mono ?_
      rintro e w' ⟨rfl, rfl⟩
      go_wp2_with fail
      obtain ⟨s0, s1, s2, s3, s4⟩ := W2.out
      unfold wPut zeroW at s0 s1 s2 s3 s4
      refine bodyPost_ret (v := .tuple #[.agg #[.string ⟨#[]⟩, .string ⟨#[]⟩, .string ⟨#[]⟩, .int .i64 0, .int .i64 0], .int .i64 (1 : Nat)]) ?_ rfl (RWReadPost.of HX.out B2.out)
      simp [results, Tryz.results74, go_sem, s0, s1, s2, s3, s4]
    | some k =>
      rw [show numI (some k) = (k : Int) from rfl]
      have HK := Lib.hid hk
      have hk0 : ¬ (k : Int) < 0 := by omega
      clear hk
      go_wp2_with fail
      refine (readSum_any z4 w1 (by omega)).mono ?_
      rintro e w' ⟨rfl, rfl⟩
      cases hm : readS (bl z4) with
      | none =>
        have HX := Lib.hid (BAD.out (fiveW_no5 hm))
        rw [show readI none = 0 from rfl, show readC none = 1 from rfl]
        clear hm BAD
        go_wp2_with fail
        obtain ⟨s0, s1, s2, s3, s4⟩ := W2.out
        unfold wPut zeroW at s0 s1 s2 s3 s4
        refine bodyPost_ret (v := .tuple #[.agg #[.string ⟨#[]⟩, .string ⟨#[]⟩, .string ⟨#[]⟩, .int .i64 0, .int .i64 0], .int .i64 (1 : Nat)]) ?_ rfl (RWReadPost.of HX.out B2.out)
        simp [results, Tryz.results74, go_sem, s0, s1, s2, s3, s4]
      | some m' =>
        rw [show readI (some m') = (m' : Int) from rfl, show readC (some m') = 0 from rfl]
        have HF : Hid (fiveW (cutL 32 (bl s)) = some ⟨z0, z1, z2, k, m'⟩) := by show _ = _; rw [HP.out, fiveW_some HK.out hm]
        have e0 := Lib.cell?_alloc_some (.cells #[.string ⟨#[]⟩, .string ⟨#[]⟩, .string ⟨#[]⟩, .int .i64 0, .int .i64 0] 41) a0
        have e1 := Lib.cell?_alloc_some (.cells #[.string ⟨#[]⟩, .string ⟨#[]⟩, .string ⟨#[]⟩, .int .i64 0, .int .i64 0] 41) a1
        have e2 := Lib.cell?_alloc_some (.cells #[.string ⟨#[]⟩, .string ⟨#[]⟩, .string ⟨#[]⟩, .int .i64 0, .int .i64 0] 41) a2
        have NB : WBox (w1.alloc (.cells #[.string ⟨#[]⟩, .string ⟨#[]⟩, .string ⟨#[]⟩, .int .i64 0, .int .i64 0] 41)) w1.heap.size zeroW := WBox.new w1 zeroW
        obtain ⟨n0, n1, n2, n3, n4⟩ : (w1.alloc (.cells #[.string ⟨#[]⟩, .string ⟨#[]⟩, .string ⟨#[]⟩, .int .i64 0, .int .i64 0] 41)).cell? ⟨w1.heap.size, 0, none⟩ = some (.string ⟨#[]⟩) ∧ (w1.alloc (.cells #[.string ⟨#[]⟩, .string ⟨#[]⟩, .string ⟨#[]⟩, .int .i64 0, .int .i64 0] 41)).cell? ⟨w1.heap.size, 1, none⟩ = some (.string ⟨#[]⟩) ∧ (w1.alloc (.cells #[.string ⟨#[]⟩, .string ⟨#[]⟩, .string ⟨#[]⟩, .int .i64 0, .int .i64 0] 41)).cell? ⟨w1.heap.size, 2, none⟩ = some (.string ⟨#[]⟩) ∧ (w1.alloc (.cells #[.string ⟨#[]⟩, .string ⟨#[]⟩, .string ⟨#[]⟩, .int .i64 0, .int .i64 0] 41)).cell? ⟨w1.heap.size, 3, none⟩ = some (.int .i64 0) ∧ (w1.alloc (.cells #[.string ⟨#[]⟩, .string ⟨#[]⟩, .string ⟨#[]⟩, .int .i64 0, .int .i64 0] 41)).cell? ⟨w1.heap.size, 4, none⟩ = some (.int .i64 0) := NB.cells
        obtain ⟨g0, g1, g2, g3, g4⟩ := NB.froz
        clear hm BAD W2 B2 NB HK
        go_wp2_with fail
        go_region
        all_goals
          go_wp2_with fail
        obtain ⟨py, hpy⟩ : ∃ py, w1.heap.size = py := ⟨_, rfl⟩
        obtain ⟨wy, hwy⟩ : ∃ wy, (w1.alloc (.cells #[.string z0, .string z1, .string z2, .int .i64 k, .int .i64 m'] 41)).drew = wy := ⟨_, rfl⟩
        have hby : Below w1.heap.size w1 wy := by rw [← hwy]; exact ((Below.refl _ _).alloc (Nat.le_refl _) _).drew
        have BY : Hid (WBox wy py ⟨z0, z1, z2, k, m'⟩) := by show WBox _ _ _; rw [← hwy, ← hpy]; exact WBox.new w1 ⟨z0, z1, z2, k, m'⟩
        have B4 := Lib.hid (B1.out.trans (hby.mono B1.out.size))
        have BX4 := Lib.hid (BX1.out.ext hby)
        rw [hwy, hpy]
        clear hwy hpy hby e0 e1 e2 n0 n1 n2 n3 n4 g0 g1 g2 g3 g4 c0 c1 c2 c3 c4 f0 f1 f2 f3 f4 a0 a1 a2 a3 a4 BX1 BX
        refine (refWantError_any ⟨z0, z1, z2, k, m'⟩ wy (by show z0.size ≤ _; omega) (by show z1.size ≤ _; omega)).mono ?_
        rintro e w5 ⟨rfl, hb5⟩
        have B5 := Lib.hid (B4.out.trans (hb5.mono B4.out.size))
        have BX5 := Lib.hid (BX4.out.ext hb5)
        have BY5 := Lib.hid (BY.out.ext hb5)
        obtain ⟨c0, c1, c2, c3, c4⟩ := BX5.out.cells
        obtain ⟨f0, f1, f2, f3, f4⟩ := BX5.out.froz
        clear hb5 BY BX4
        cases hw : wantE ⟨z0, z1, z2, k, m'⟩ with
        | succ c =>
          have HX := Lib.hid (readW_bad HF.out hw)
          have W6 := Lib.hid ((BX5.out.store zeroW).cells)
          have B6 := Lib.hid (B5.out.trans (below_wPut w5 zeroW hpw))
          have hpos := @posN c
          clear hw
          generalize hnn : ((c + 1 : Nat) : Int) = n at hpos
          have HN := Lib.hid hnn
          clear hnn
          go_wp2_with fail
          obtain ⟨s0, s1, s2, s3, s4⟩ := W6.out
          unfold wPut zeroW at s0 s1 s2 s3 s4
          refine bodyPost_ret (v := .tuple #[.agg #[.string ⟨#[]⟩, .string ⟨#[]⟩, .string ⟨#[]⟩, .int .i64 0, .int .i64 0], .int .i64 (c + 1 : Nat)]) ?_ rfl (RWReadPost.of HX.out B6.out)
          rw [HN.out]
          simp [results, Tryz.results74, go_sem, s0, s1, s2, s3, s4]
        | zero =>
          have HX := Lib.hid (readW_fine HF.out hw)
          have W6 := Lib.hid ((BX5.out.store ⟨z0, z1, z2, k, m'⟩).cells)
          have B6 := Lib.hid (B5.out.trans (below_wPut w5 ⟨z0, z1, z2, k, m'⟩ hpw))
          obtain ⟨y0, y1, y2, y3, y4⟩ : w5.cell? ⟨py, 0, none⟩ = some (.string z0) ∧ w5.cell? ⟨py, 1, none⟩ = some (.string z1) ∧ w5.cell? ⟨py, 2, none⟩ = some (.string z2) ∧ w5.cell? ⟨py, 3, none⟩ = some (.int .i64 k) ∧ w5.cell? ⟨py, 4, none⟩ = some (.int .i64 m') := BY5.out.cells
          rw [show ((0 : Nat) : Int) = 0 from rfl]
          clear hw
          go_wp2_with fail
          obtain ⟨s0, s1, s2, s3, s4⟩ := W6.out
          unfold wPut at s0 s1 s2 s3 s4
          refine bodyPost_ret (v := .tuple #[.agg #[.string z0, .string z1, .string z2, .int .i64 k, .int .i64 m'], .int .i64 (0 : Nat)]) ?_ rfl (RWReadPost.of HX.out B6.out)
          simp [results, Tryz.results74, go_sem, s0, s1, s2, s3, s4]
end Go.Proofs.YtgchgdkpipanjaaGreatDoor
