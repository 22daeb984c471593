/- The reference's WantError: the contract. The reference's WantText: the contract. The reference's ReadWant: the contract. The reference's OpenWant and RightWant: the contracts. -/
import Derived.Test.YtamimigpnhblmaaGreatDoorJWantsUp
import Derived.Test.YtamimigpnhblmaaGreatDoorJRefLinkUp
import Derived.Test.YtamimigpnhblmaaGreatDoorJSummed
import Derived.Test.YtamimigpnhblmaaGreatDoorJTexts
import Derived.Test.YtamimigpnhblmaaGreatDoorJRefPathed
import Derived.Test.YtamimigpnhblmaaGreatDoorJRefReadPack
import Derived.Test.YtamimigpnhblmaaGreatDoorJRefTreeUp
import Derived.Test.YtamimigpnhblmaaGreatDoorJRefPressed
import Derived.Test.YtamimigpnhblmaaGreatDoorJRefPacked
import Derived.BigQuiet
namespace Go.Proofs.YtamimigpnhblmaaGreatDoor
open Go Go.RowKit

theorem posN {c : Nat} : (0 : Int) < ((c + 1 : Nat) : Int) := by omega

set_option maxHeartbeats 2000000 in
set_option maxRecDepth 100000 in
theorem refWantError_any (x : WantB) (w : World) (hn : x.name.size ≤ 1000000) (hu : x.url.size ≤ 100000) :
    Calls Tryz.prog 30 #[.agg #[.string x.name, .string x.url, .string x.kind, .int .i64 x.strip, .int .i64 x.sum]] w fun e w' => e = .returned (.int .i64 (wantE x)) ∧ Below w.heap.size w w' := by
  obtain ⟨px, hpx⟩ : ∃ px, w.heap.size = px := ⟨_, rfl⟩
  obtain ⟨wx, hwx⟩ : ∃ wx, w.alloc (.cells #[.string x.name, .string x.url, .string x.kind, .int .i64 x.strip, .int .i64 x.sum] 51) = wx := ⟨_, rfl⟩
  have hbx : Below w.heap.size w wx := by rw [← hwx]; exact (Below.refl _ _).alloc (Nat.le_refl _) _
  have BX := Lib.hid (show WBox wx px x by rw [← hwx, ← hpx]; exact WBox.new w x)
  have HB := Lib.hid hbx
  have HWX := Lib.hid hwx
  have HPX := Lib.hid hpx
  have K1 := Lib.hid (@wantE_name x)
  have K2 := Lib.hid (fun c => @wantE_url x c)
  have K3 := Lib.hid (@wantE_from x)
  obtain ⟨c0, _, _, _, _⟩ := BX.out.cells
  clear hpx hwx hbx
  go_enter Tryz.func30, Tryz.ntmps30
  go_upto_region 1 with fail
  rw [HWX.out, HPX.out]
  go_wp2_with fail
  refine (refIsPart_any x.name wx (by omega)).mono ?_
  rintro e w1 ⟨rfl, hb1⟩
  have B1 := Lib.hid (HB.out.trans (hb1.mono HB.out.size))
  have BX1 := Lib.hid (BX.out.ext hb1)
  clear hb1 c0
  cases hp : partB (bl x.name) with
  | false =>
    have HX := Lib.hid (K1.out hp)
    clear hp
    go_wp2_with fail
    go_ret
    exact ⟨by rw [HX.out]; rfl, B1.out⟩
  | true =>
    obtain ⟨_, c1, _, _, _⟩ := BX1.out.cells
    have HP := Lib.hid hp
    clear hp
    go_wp2_with fail
    refine (refLinkError_any x.url w1 hu).mono ?_
    rintro e w2 ⟨rfl, hb2⟩
    have B2 := Lib.hid (B1.out.trans (hb2.mono B1.out.size))
    have BX2 := Lib.hid (BX1.out.ext hb2)
    clear hb2 c1
    obtain ⟨ln, hl⟩ : ∃ ln, linkE (bl x.url) = ln := ⟨_, rfl⟩
    rw [hl]
    cases ln with
    | succ c =>
      have HX := Lib.hid (K2.out c HP.out hl)
      clear hl
      have hpos := @posN c
      generalize hnn : ((c + 1 : Nat) : Int) = n at hpos
      have HN := Lib.hid hnn
      clear hnn
      go_wp2_with fail
      go_ret
      exact ⟨by rw [HX.out, HN.out]; rfl, B2.out⟩
    | zero =>
      have HX := Lib.hid (K3.out HP.out hl)
      rw [show ((0 : Nat) : Int) = 0 from rfl]
      obtain ⟨_, _, c2, _, _⟩ := BX2.out.cells
      have RW : Row encStr 1 (w2.alloc (.cells #[.string ⟨#[112, 108, 97, 105, 110]⟩, .string ⟨#[112, 97, 99, 107]⟩, .string ⟨#[112, 114, 101, 115, 115]⟩] 9)) (.slice (some ⟨w2.heap.size, 0, none⟩) 3 3) wkindsB :=
        Row.block1 Value.string w2 wkindsB 9 (by rw [maxLen_eq]; decide) w2.heap.size 3 rfl rfl
      have HK := Lib.hid (refInTexts_any x.kind RW (by decide))
      clear hl K1 K2 K3 RW
      go_wp2_with fail
      refine HK.out.mono ?_
      clear HK
      rintro e w3 ⟨rfl, hb3⟩
      have b3 : Below w2.heap.size w2 w3 := ((Below.refl _ w2).alloc (Nat.le_refl _) _).trans (hb3.mono (by simp))
      have B3 := Lib.hid (B2.out.trans (b3.mono B2.out.size))
      have BX3 := Lib.hid (BX2.out.ext b3)
      obtain ⟨_, _, d2, d3, d4⟩ := BX3.out.cells
      clear hb3 b3 c2
      rw [show wkindsB.map bl = wkinds from rfl]
      cases hk : wkinds.contains (bl x.kind) with
      | false =>
        have HY : Hid (wantE x = 4) := by show _ = _; rw [HX.out, if_pos hk]
        clear hk
        go_wp2_with fail
        go_ret
        exact ⟨by rw [HY.out]; rfl, B3.out⟩
      | true =>
        have HY := HX.out
        rw [if_neg (by rw [hk]; simp)] at HY
        have HX2 := Lib.hid HY
        clear hk HY HX
        by_cases h0 : x.strip < 0
        · have HZ : Hid (wantE x = 2) := by show _ = _; rw [HX2.out, if_pos (.inl h0)]
          go_wp2_with fail
          go_ret
          exact ⟨by rw [HZ.out]; rfl, B3.out⟩
        · by_cases h6 : 6 < x.strip
          · have HZ : Hid (wantE x = 2) := by show _ = _; rw [HX2.out, if_pos (.inr h6)]
            go_wp2_with fail
            go_ret
            exact ⟨by rw [HZ.out]; rfl, B3.out⟩
          · have HY := HX2.out
            rw [if_neg (by omega)] at HY
            have HX3 := Lib.hid HY
            clear HY HX2
            have q := kind_eqb x.kind
            by_cases hkp : bl x.kind = kPlain
            · rw [decide_eq_true hkp] at q
              by_cases hs0 : x.strip = 0
              · have HY : Hid (wantE x = if rightB x.sum = false then 2 else 0) := by show _ = _; rw [HX3.out, if_neg (fun e => e.2 hs0)]
                have q0 : (x.strip == 0) = true := by rw [hs0]; rfl
                clear hkp hs0 HX3
                go_wp2_with fail
                refine (isSum_any _ _).mono ?_
                rintro e w4 ⟨rfl, rfl⟩
                cases hr : rightB x.sum with
                | false =>
                  have HZ : Hid (wantE x = 2) := by show _ = _; rw [HY.out, if_pos hr]
                  clear hr
                  go_wp2_with fail
                  go_ret
                  exact ⟨by rw [HZ.out]; rfl, B3.out⟩
                | true =>
                  have HZ : Hid (wantE x = 0) := by show _ = _; rw [HY.out, if_neg (by rw [hr]; simp)]
                  clear hr
                  go_wp2_with fail
                  go_ret
                  exact ⟨by rw [HZ.out]; rfl, B3.out⟩
              · have HZ : Hid (wantE x = 3) := by show _ = _; rw [HX3.out, if_pos ⟨hkp, hs0⟩]
                have q0 : (x.strip == 0) = false := beq_eq_false_iff_ne.2 hs0
                clear hkp hs0 HX3
                go_wp2_with fail
                go_ret
                exact ⟨by rw [HZ.out]; rfl, B3.out⟩
            · rw [decide_eq_false hkp] at q
              have HY : Hid (wantE x = if rightB x.sum = false then 2 else 0) := by show _ = _; rw [HX3.out, if_neg (fun e => hkp e.1)]
              clear hkp HX3
              go_wp2_with fail
              refine (isSum_any _ _).mono ?_
              rintro e w4 ⟨rfl, rfl⟩
              cases hr : rightB x.sum with
              | false =>
                have HZ : Hid (wantE x = 2) := by show _ = _; rw [HY.out, if_pos hr]
                clear hr
                go_wp2_with fail
                go_ret
                exact ⟨by rw [HZ.out]; rfl, B3.out⟩
              | true =>
                have HZ : Hid (wantE x = 0) := by show _ = _; rw [HY.out, if_neg (by rw [hr]; simp)]
                clear hr
                go_wp2_with fail
                go_ret
                exact ⟨by rw [HZ.out]; rfl, B3.out⟩
end Go.Proofs.YtamimigpnhblmaaGreatDoor

namespace Go.Proofs.YtamimigpnhblmaaGreatDoor
open Go Go.RowKit

theorem want_bl (a b c t u : ByteArray) : bl (a ++ { data := #[32] } ++ b ++ { data := #[32] } ++ c ++ { data := #[32] } ++ t ++ { data := #[32] } ++ u) = bl a ++ 32 :: (bl b ++ 32 :: (bl c ++ 32 :: (bl t ++ 32 :: bl u))) := by
  simp only [bl_append]
  rw [show bl { data := #[32] } = [32] from rfl]
  simp
theorem dec_len {n : Nat} (h : n < 10000000000) : (Lib.decDigits n).length ≤ 10 := decDigits_len_le 9 n h

set_option maxHeartbeats 4000000 in
set_option maxRecDepth 100000 in
theorem refWantText_any (x : WantB) (w : World) (hn : x.name.size ≤ 1000000) (hu : x.url.size ≤ 100000) (hk : x.kind.size ≤ 1000000) :
    Calls Tryz.prog 32 #[.agg #[.string x.name, .string x.url, .string x.kind, .int .i64 x.strip, .int .i64 x.sum]] w (TextPost x w) := by
  obtain ⟨px, hpx⟩ : ∃ px, w.heap.size = px := ⟨_, rfl⟩
  obtain ⟨wx, hwx⟩ : ∃ wx, w.alloc (.cells #[.string x.name, .string x.url, .string x.kind, .int .i64 x.strip, .int .i64 x.sum] 51) = wx := ⟨_, rfl⟩
  have hbx : Below w.heap.size w wx := by rw [← hwx]; exact (Below.refl _ _).alloc (Nat.le_refl _) _
  have BX := Lib.hid (show WBox wx px x by rw [← hwx, ← hpx]; exact WBox.new w x)
  have HB := Lib.hid hbx
  have HWX := Lib.hid hwx
  have HPX := Lib.hid hpx
  obtain ⟨c0, c1, c2, c3, c4⟩ := BX.out.cells
  have C := Lib.hid (refWantError_any x wx hn hu)
  clear hpx hwx hbx
  go_enter Tryz.func32, Tryz.ntmps32
  go_upto_region 1 with fail
  rw [HWX.out, HPX.out]
  go_wp2_with fail
  refine C.out.mono ?_
  clear C
  rintro e w1 ⟨rfl, hb1⟩
  have B1 := Lib.hid (HB.out.trans (hb1.mono HB.out.size))
  have BX1 := Lib.hid (BX.out.ext hb1)
  clear hb1 c0 c1 c2 c3 c4
  cases hw : wantE x with
  | succ c =>
    have HX := Lib.hid (wantTx_not hw)
    have hpos := @posN c
    generalize ((c + 1 : Nat) : Int) = n at hpos
    clear hw
    go_wp2_with fail
    go_ret
    exact ⟨⟨_, rfl, by show _ = _; rw [HX.out]; rfl⟩, B1.out⟩
  | zero =>
    have HX := Lib.hid (wantTx_is hw)
    obtain ⟨n1, n2, n3, n4⟩ := want_nums hw
    rw [show ((0 : Nat) : Int) = 0 from rfl]
    clear hw
    obtain ⟨k, hkk⟩ : ∃ k : Nat, x.strip = k := ⟨x.strip.toNat, by omega⟩
    obtain ⟨m, hmm⟩ : ∃ m : Nat, x.sum = m := ⟨x.sum.toNat, by omega⟩
    have hk6 : k ≤ 6 := by omega
    have hm9 : m < 1000000007 := by omega
    have HX2 : Hid (wantTx x = bl x.name ++ 32 :: (bl x.url ++ 32 :: (bl x.kind ++ 32 :: (Lib.decDigits k ++ 32 :: (115 :: Lib.decDigits m))))) := by show _ = _; rw [HX.out, hkk, hmm]; rfl
    have HI : Hid (∀ W, Below w1.heap.size w1 W → Calls Tryz.prog 78 #[.int .i64 k] W fun e w' => ∃ t : ByteArray, e = .returned (.string t) ∧ Hid (bl t = Lib.decDigits k) ∧ t.size ≤ 1000000 ∧ Below w1.heap.size w1 w') := fun W hW => by
      refine (decimal_any k (by omega) W).mono ?_
      rintro e w' ⟨t, rfl, h1, h2, h3⟩
      exact ⟨t, rfl, h1, by omega, hW.trans (h3.mono hW.size)⟩
    have HT : Hid (∀ W, Below w1.heap.size w1 W → Calls Tryz.prog 79 #[.int .i64 m] W fun e w' => ∃ t : ByteArray, e = .returned (.string t) ∧ Hid (bl t = 115 :: Lib.decDigits m) ∧ t.size ≤ 1000000 ∧ Below w1.heap.size w1 w') := fun W hW => by
      refine (refText_ok m hm9 W).mono ?_
      rintro e w' ⟨t, rfl, h1, h3⟩
      exact ⟨t, rfl, h1, by have := dec_len (n := m) (by omega); rw [← bl_length, h1.out, List.length_cons]; omega, hW.trans (h3.mono hW.size)⟩
    have KEEP : Hid (∀ W, Below w1.heap.size w1 W → W.cell? ⟨px, 0, none⟩ = some (.string x.name) ∧ W.cell? ⟨px, 1, none⟩ = some (.string x.url) ∧ W.cell? ⟨px, 2, none⟩ = some (.string x.kind) ∧ W.cell? ⟨px, 3, none⟩ = some (.int .i64 k) ∧ W.cell? ⟨px, 4, none⟩ = some (.int .i64 m)) := fun W hW => by
      have := (BX1.out.ext hW).cells
      rw [hkk, hmm] at this
      exact this
    obtain ⟨c0, c1, c2, c3, c4⟩ := KEEP.out w1 (Below.refl _ _)
    have HXB := Lib.hid (want_bl x.name x.url x.kind)
    clear hkk hmm n1 n2 n3 n4 HX hk6 hm9
    have n1 : ¬ 9223372036854775807 < x.name.size + 1 := by omega
    have n2 : ¬ 9223372036854775807 < x.name.size + 1 + x.url.size := by omega
    have n3 : ¬ 9223372036854775807 < x.name.size + 1 + x.url.size + 1 := by omega
    have n4 : ¬ 9223372036854775807 < x.name.size + 1 + x.url.size + 1 + x.kind.size := by omega
    have n5 : ¬ 9223372036854775807 < x.name.size + 1 + x.url.size + 1 + x.kind.size + 1 := by omega
    go_wp2_with fail
    go_region_held3 (fun W : World => W.cell? ⟨px, 0, none⟩ = some (.string x.name) ∧ W.cell? ⟨px, 1, none⟩ = some (.string x.url) ∧ W.cell? ⟨px, 2, none⟩ = some (.string x.kind) ∧ W.cell? ⟨px, 3, none⟩ = some (.int .i64 k) ∧ W.cell? ⟨px, 4, none⟩ = some (.int .i64 m)) (first | go_keep | exact KEEP.out _ hb5 | exact KEEP.out _ hb6)
      (first
        | (go_at_call 78; refine (HI.out _ (by first | exact (Below.refl _ _).drew | exact hb6)).mono ?_; rintro e w5 ⟨t5, rfl, H5, hs5, hb5⟩
           have n6 : ¬ 9223372036854775807 < x.name.size + 1 + x.url.size + 1 + x.kind.size + 1 + t5.size := by omega
           have n7 : ¬ 9223372036854775807 < x.name.size + 1 + x.url.size + 1 + x.kind.size + 1 + t5.size + 1 := by omega)
        | (go_at_call 79; refine (HT.out _ (by first | exact hb5 | exact (Below.refl _ _).drew)).mono ?_; rintro e w6 ⟨t6, rfl, H6, hs6, hb6⟩
           have n8 : ¬ 9223372036854775807 < x.name.size + 1 + x.url.size + 1 + x.kind.size + 1 + t5.size + 1 + t6.size := by omega))
    go_wp2_with fail
    go_ret
    exact ⟨⟨_, rfl, by show _ = _; rw [HX2.out, ← H5.out, ← H6.out]; exact HXB.out t5 t6⟩, B1.out.trans (hb6.mono B1.out.size)⟩
end Go.Proofs.YtamimigpnhblmaaGreatDoor

namespace Go.Proofs.YtamimigpnhblmaaGreatDoor
open Go Go.RowKit

/-- What the reference's ReadWant hands back. -/
def RWReadPost (s : ByteArray) (w : World) (e : Ending) (w' : World) : Prop :=
  e = .returned (.tuple #[wV (readW (bl s)).2, .int .i64 (readW (bl s)).1]) ∧ Below w.heap.size w w'
theorem RWReadPost.of {s : ByteArray} {w w' : World} {c : Nat} {y : WantB} (h : readW (bl s) = (c, y)) (hb : Below w.heap.size w w') :
    RWReadPost s w (.returned (.tuple #[.agg #[.string y.name, .string y.url, .string y.kind, .int .i64 y.strip, .int .i64 y.sum], .int .i64 c])) w' := ⟨by rw [h]; rfl, hb⟩

set_option maxHeartbeats 4000000 in
set_option maxRecDepth 100000 in
theorem refReadWant_any (s : ByteArray) (w : World) (hs : s.size ≤ 100000) :
    Calls Tryz.prog 34 #[.string s] w (RWReadPost s w) := by
  obtain ⟨i0, hi0, hz0, hz1, hz2⟩ := info_parts Tryz.infoWant
  obtain ⟨px, hpx⟩ : ∃ px, w.heap.size = px := ⟨_, rfl⟩
  obtain ⟨wx, hwx⟩ : ∃ wx, w.alloc (.cells #[.string ⟨#[]⟩, .string ⟨#[]⟩, .string ⟨#[]⟩, .int .i64 0, .int .i64 0] 51) = wx := ⟨_, rfl⟩
  have hbx : Below w.heap.size w wx := by rw [← hwx]; exact (Below.refl _ _).alloc (Nat.le_refl _) _
  have BX := Lib.hid (show WBox wx px zeroW by rw [← hwx, ← hpx]; exact WBox.new w zeroW)
  have hpw : w.heap.size ≤ px := Nat.le_of_eq hpx
  have HB := Lib.hid hbx
  have HWX := Lib.hid hwx
  have HPX := Lib.hid hpx
  have C := Lib.hid (refCut_any s 32 wx (by omega))
  clear hpx hwx hbx
  go_enter Tryz.func34, Tryz.ntmps34
  go_wp2_with fail
  rw [HWX.out, HPX.out]
  refine C.out.mono ?_
  clear C
  rintro e w1 ⟨v, zs, rfl, HV, HZ, hl, hb1⟩
  have B1 := Lib.hid (HB.out.trans (hb1.mono HB.out.size))
  have BX1 := Lib.hid (BX.out.ext hb1)
  obtain ⟨ao, cap, rfl, h1, h2, H3⟩ := HV.out.parts
  have HM := Lib.hid H3
  clear hb1 H3 HV
  obtain ⟨c0, c1, c2, c3, c4⟩ := BX1.out.cells
  obtain ⟨f0, f1, f2, f3, f4⟩ := BX1.out.froz
  have W2 := Lib.hid ((BX1.out.store zeroW).cells)
  have B2 := Lib.hid (B1.out.trans (below_wPut w1 zeroW hpw))
  by_cases h5 : zs.length = 5
  rotate_left
  · have HX : Hid (readW (bl s) = (1, zeroW)) := readW_none (fiveW_len (by rw [← HZ.out, List.length_map]; exact h5))
    have hne : ((zs.length : Int) == 5) = false := by rw [beq_eq_false_iff_ne]; omega
    clear h5 HZ HM
    go_wp2_with fail
    obtain ⟨s0, s1, s2, s3, s4⟩ := W2.out
    unfold wPut zeroW at s0 s1 s2 s3 s4
    refine bodyPost_ret (v := .tuple #[.agg #[.string ⟨#[]⟩, .string ⟨#[]⟩, .string ⟨#[]⟩, .int .i64 0, .int .i64 0], .int .i64 (1 : Nat)]) ?_ rfl (RWReadPost.of HX.out B2.out)
    simp [results, Tryz.results34, go_sem, s0, s1, s2, s3, s4]
  · obtain ⟨b, off, rfl, hbl, hcell⟩ := HM.out 0 (by omega)
    obtain ⟨z0, z1, z2, z3, z4, rfl⟩ := five_of h5
    have HP : Hid (cutL 32 (bl s) = [bl z0, bl z1, bl z2, bl z3, bl z4]) := HZ.out.symm
    have a0 : w1.cell? ⟨b, off, none⟩ = some (.string z0) := hcell 0 (by simp)
    have a1 : w1.cell? ⟨b, off + 1, none⟩ = some (.string z1) := hcell 1 (by simp)
    have a2 : w1.cell? ⟨b, off + 2, none⟩ = some (.string z2) := hcell 2 (by simp)
    have a3 : w1.cell? ⟨b, off + 3, none⟩ = some (.string z3) := hcell 3 (by simp)
    have a4 : w1.cell? ⟨b, off + 4, none⟩ = some (.string z4) := hcell 4 (by simp)
    have hsz : ∀ z ∈ [z0, z1, z2, z3, z4], z.size ≤ s.size := fun z hz => by
      have h : bl z ∈ cutL 32 (bl s) := by rw [← HZ.out]; exact List.mem_map.2 ⟨z, hz, rfl⟩
      have := cutL_size 32 (bl s) _ h
      rwa [bl_length, bl_length] at this
    have sz0 := hsz z0 (by simp)
    have sz1 := hsz z1 (by simp)
    have sz3 := hsz z3 (by simp)
    have sz4 := hsz z4 (by simp)
    clear hcell HZ HM h5 hsz
    rw [show ([z0, z1, z2, z3, z4] : List ByteArray).length = 5 from rfl] at h1 ⊢
    have BAD : Hid (fiveW [bl z0, bl z1, bl z2, bl z3, bl z4] = none → readW (bl s) = (1, zeroW)) := fun h => readW_none (by rw [HP.out]; exact h)
    go_wp2_with fail
    refine (numberOf_any z3 1 (by decide) w1 (by omega)).mono ?_
    rintro e w' ⟨rfl, rfl⟩
    cases hk : numOf (bl z3) 1 with
    | none =>
      have HX := Lib.hid (BAD.out (fiveW_no4 hk))
      rw [show numI none = -1 from rfl]
      clear hk BAD
      go_wp2_with fail
      refine (readSum_any z4 w1 (by omega)).mono ?_
      rintro e w' ⟨rfl, rfl⟩
      go_wp2_with fail
      obtain ⟨s0, s1, s2, s3, s4⟩ := W2.out
      unfold wPut zeroW at s0 s1 s2 s3 s4
      refine bodyPost_ret (v := .tuple #[.agg #[.string ⟨#[]⟩, .string ⟨#[]⟩, .string ⟨#[]⟩, .int .i64 0, .int .i64 0], .int .i64 (1 : Nat)]) ?_ rfl (RWReadPost.of HX.out B2.out)
      simp [results, Tryz.results34, go_sem, s0, s1, s2, s3, s4]
    | some k =>
      rw [show numI (some k) = (k : Int) from rfl]
      have HK := Lib.hid hk
      have hk0 : ¬ (k : Int) < 0 := by omega
      clear hk
      go_wp2_with fail
      refine (readSum_any z4 w1 (by omega)).mono ?_
      rintro e w' ⟨rfl, rfl⟩
      cases hm : readS (bl z4) with
      | none =>
        have HX := Lib.hid (BAD.out (fiveW_no5 hm))
        rw [show readI none = 0 from rfl, show readC none = 1 from rfl]
        clear hm BAD
        go_wp2_with fail
        obtain ⟨s0, s1, s2, s3, s4⟩ := W2.out
        unfold wPut zeroW at s0 s1 s2 s3 s4
        refine bodyPost_ret (v := .tuple #[.agg #[.string ⟨#[]⟩, .string ⟨#[]⟩, .string ⟨#[]⟩, .int .i64 0, .int .i64 0], .int .i64 (1 : Nat)]) ?_ rfl (RWReadPost.of HX.out B2.out)
        simp [results, Tryz.results34, go_sem, s0, s1, s2, s3, s4]
      | some m' =>
        rw [show readI (some m') = (m' : Int) from rfl, show readC (some m') = 0 from rfl]
        have HF : Hid (fiveW (cutL 32 (bl s)) = some ⟨z0, z1, z2, k, m'⟩) := by show _ = _; rw [HP.out, fiveW_some HK.out hm]
        have e0 := Lib.cell?_alloc_some (.cells #[.string ⟨#[]⟩, .string ⟨#[]⟩, .string ⟨#[]⟩, .int .i64 0, .int .i64 0] 51) a0
        have e1 := Lib.cell?_alloc_some (.cells #[.string ⟨#[]⟩, .string ⟨#[]⟩, .string ⟨#[]⟩, .int .i64 0, .int .i64 0] 51) a1
        have e2 := Lib.cell?_alloc_some (.cells #[.string ⟨#[]⟩, .string ⟨#[]⟩, .string ⟨#[]⟩, .int .i64 0, .int .i64 0] 51) a2
        have NB : WBox (w1.alloc (.cells #[.string ⟨#[]⟩, .string ⟨#[]⟩, .string ⟨#[]⟩, .int .i64 0, .int .i64 0] 51)) w1.heap.size zeroW := WBox.new w1 zeroW
        obtain ⟨n0, n1, n2, n3, n4⟩ : (w1.alloc (.cells #[.string ⟨#[]⟩, .string ⟨#[]⟩, .string ⟨#[]⟩, .int .i64 0, .int .i64 0] 51)).cell? ⟨w1.heap.size, 0, none⟩ = some (.string ⟨#[]⟩) ∧ (w1.alloc (.cells #[.string ⟨#[]⟩, .string ⟨#[]⟩, .string ⟨#[]⟩, .int .i64 0, .int .i64 0] 51)).cell? ⟨w1.heap.size, 1, none⟩ = some (.string ⟨#[]⟩) ∧ (w1.alloc (.cells #[.string ⟨#[]⟩, .string ⟨#[]⟩, .string ⟨#[]⟩, .int .i64 0, .int .i64 0] 51)).cell? ⟨w1.heap.size, 2, none⟩ = some (.string ⟨#[]⟩) ∧ (w1.alloc (.cells #[.string ⟨#[]⟩, .string ⟨#[]⟩, .string ⟨#[]⟩, .int .i64 0, .int .i64 0] 51)).cell? ⟨w1.heap.size, 3, none⟩ = some (.int .i64 0) ∧ (w1.alloc (.cells #[.string ⟨#[]⟩, .string ⟨#[]⟩, .string ⟨#[]⟩, .int .i64 0, .int .i64 0] 51)).cell? ⟨w1.heap.size, 4, none⟩ = some (.int .i64 0) := NB.cells
        obtain ⟨g0, g1, g2, g3, g4⟩ := NB.froz
        clear hm BAD W2 B2 NB HK
        go_wp2_with fail
        go_region
        all_goals
          go_wp2_with fail
        obtain ⟨py, hpy⟩ : ∃ py, w1.heap.size = py := ⟨_, rfl⟩
        obtain ⟨wy, hwy⟩ : ∃ wy, (w1.alloc (.cells #[.string z0, .string z1, .string z2, .int .i64 k, .int .i64 m'] 51)).drew = wy := ⟨_, rfl⟩
        have hby : Below w1.heap.size w1 wy := by rw [← hwy]; exact ((Below.refl _ _).alloc (Nat.le_refl _) _).drew
        have BY : Hid (WBox wy py ⟨z0, z1, z2, k, m'⟩) := by show WBox _ _ _; rw [← hwy, ← hpy]; exact WBox.new w1 ⟨z0, z1, z2, k, m'⟩
        have B4 := Lib.hid (B1.out.trans (hby.mono B1.out.size))
        have BX4 := Lib.hid (BX1.out.ext hby)
        rw [hwy, hpy]
        clear hwy hpy hby e0 e1 e2 n0 n1 n2 n3 n4 g0 g1 g2 g3 g4 c0 c1 c2 c3 c4 f0 f1 f2 f3 f4 a0 a1 a2 a3 a4 BX1 BX
        refine (refWantError_any ⟨z0, z1, z2, k, m'⟩ wy (by show z0.size ≤ _; omega) (by show z1.size ≤ _; omega)).mono ?_
        rintro e w5 ⟨rfl, hb5⟩
        have B5 := Lib.hid (B4.out.trans (hb5.mono B4.out.size))
        have BX5 := Lib.hid (BX4.out.ext hb5)
        have BY5 := Lib.hid (BY.out.ext hb5)
        obtain ⟨c0, c1, c2, c3, c4⟩ := BX5.out.cells
        obtain ⟨f0, f1, f2, f3, f4⟩ := BX5.out.froz
        clear hb5 BY BX4
        cases hw : wantE ⟨z0, z1, z2, k, m'⟩ with
        | succ c =>
          have HX := Lib.hid (readW_bad HF.out hw)
          have W6 := Lib.hid ((BX5.out.store zeroW).cells)
          have B6 := Lib.hid (B5.out.trans (below_wPut w5 zeroW hpw))
          have hpos := @posN c
          clear hw
          generalize hnn : ((c + 1 : Nat) : Int) = n at hpos
          have HN := Lib.hid hnn
          clear hnn
          go_wp2_with fail
          obtain ⟨s0, s1, s2, s3, s4⟩ := W6.out
          unfold wPut zeroW at s0 s1 s2 s3 s4
          refine bodyPost_ret (v := .tuple #[.agg #[.string ⟨#[]⟩, .string ⟨#[]⟩, .string ⟨#[]⟩, .int .i64 0, .int .i64 0], .int .i64 (c + 1 : Nat)]) ?_ rfl (RWReadPost.of HX.out B6.out)
          rw [HN.out]
          simp [results, Tryz.results34, go_sem, s0, s1, s2, s3, s4]
        | zero =>
          have HX := Lib.hid (readW_fine HF.out hw)
          have W6 := Lib.hid ((BX5.out.store ⟨z0, z1, z2, k, m'⟩).cells)
          have B6 := Lib.hid (B5.out.trans (below_wPut w5 ⟨z0, z1, z2, k, m'⟩ hpw))
          obtain ⟨y0, y1, y2, y3, y4⟩ : w5.cell? ⟨py, 0, none⟩ = some (.string z0) ∧ w5.cell? ⟨py, 1, none⟩ = some (.string z1) ∧ w5.cell? ⟨py, 2, none⟩ = some (.string z2) ∧ w5.cell? ⟨py, 3, none⟩ = some (.int .i64 k) ∧ w5.cell? ⟨py, 4, none⟩ = some (.int .i64 m') := BY5.out.cells
          rw [show ((0 : Nat) : Int) = 0 from rfl]
          clear hw
          go_wp2_with fail
          obtain ⟨s0, s1, s2, s3, s4⟩ := W6.out
          unfold wPut at s0 s1 s2 s3 s4
          refine bodyPost_ret (v := .tuple #[.agg #[.string z0, .string z1, .string z2, .int .i64 k, .int .i64 m'], .int .i64 (0 : Nat)]) ?_ rfl (RWReadPost.of HX.out B6.out)
          simp [results, Tryz.results34, go_sem, s0, s1, s2, s3, s4]
end Go.Proofs.YtamimigpnhblmaaGreatDoor

namespace Go.Proofs.YtamimigpnhblmaaGreatDoor
open Go Go.RowKit

theorem TreeOk.tight {l : List FileB} (h : TreeOk l) : ∀ f ∈ l, f.path.size ≤ 300 := fun f hf => by
  have h1 := (h.each f hf).1
  have := cleanT_len (path_clean h1).1
  rw [(path_clean h1).2, bl_length] at this
  omega
theorem want_kind {x : WantB} (h : wantE x = 0) : bl x.kind = kPlain ∨ bl x.kind = kPack ∨ bl x.kind = kPress := by
  unfold wantE at h
  split at h
  · cases h
  split at h
  · rename_i h2; exact absurd h h2
  split at h
  · cases h
  rename_i h3
  have h4 : wkinds.contains (bl x.kind) = true := by simpa using h3
  rw [List.contains_iff_mem] at h4
  unfold wkinds at h4
  simpa using h4
theorem openW_ref {x : WantB} {s : ByteArray} (h : wantE x = 0) : openW x s = if 20000 < s.size then (2, [])
  else if bl x.kind = kPlain then (if (treeEr (oneFile x.name s)).code ≠ 0 then ((treeEr (oneFile x.name s)).code, []) else (0, oneFile x.name s))
  else if bl x.kind = kPress then (if (openE (runsL (bl s)) 20000).code ≠ 0 then ((openE (runsL (bl s)) 20000).code, []) else unpackT (openT (runsL (bl s)) 20000) x.strip)
  else unpackT (bl s) x.strip := by
  rw [openW_from h]
  split
  · rfl
  · rcases want_kind h with e | e | e
    · rw [if_neg (show ¬ bl x.kind = kPack by rw [e]; decide), if_neg (show ¬ bl x.kind = kPress by rw [e]; decide), if_pos e]
    · rw [if_pos e, if_neg (show ¬ bl x.kind = kPlain by rw [e]; decide), if_neg (show ¬ bl x.kind = kPress by rw [e]; decide)]
    · rw [if_neg (show ¬ bl x.kind = kPack by rw [e]; decide), if_neg (show ¬ bl x.kind = kPlain by rw [e]; decide), if_pos e, if_pos e]

/-- What the reference's OpenWant and RightWant hand back. -/
def RWOpenPost (r : Nat × List FileB) (w : World) (e : Ending) (w' : World) : Prop :=
  (∃ v, e = .returned (.tuple #[v, .int .i64 r.1]) ∧ Hid (FArg w' v r.2)) ∧ Below w.heap.size w w'
theorem RWOpenPost.none {r : Nat × List FileB} {w w' : World} {c : Nat} (h : r = (c, [])) (hb : Below w.heap.size w w') : RWOpenPost r w (.returned (.tuple #[.slice none 0 0, .int .i64 c])) w' :=
  ⟨⟨_, by rw [h], by rw [h]; exact FArg.nil _⟩, hb⟩
theorem RWOpenPost.some {r : Nat × List FileB} {w w' : World} {v : Value} {c : Nat} {l : List FileB} (h : r = (c, l)) (hv : FArg w' v l) (hb : Below w.heap.size w w') : RWOpenPost r w (.returned (.tuple #[v, .int .i64 c])) w' :=
  ⟨⟨_, by rw [h], by rw [h]; exact hv⟩, hb⟩
theorem unpack_bad {s : List UInt8} {n : Int} {d : Nat} (h : (readEr s).code = 0) (h2 : (stripTr (readT s) n).1.code = d) (hd : d ≠ 0) : unpackT s n = (d, []) := by
  rw [unpackT_fine n h, h2, stripTr_bad (by rw [h2]; exact hd)]
theorem unpack_ok {s : List UInt8} {n : Int} (h : (readEr s).code = 0) (h2 : (stripTr (readT s) n).1.code = 0) : unpackT s n = (0, (stripTr (readT s) n).2) := by
  rw [unpackT_fine n h, h2]

set_option maxHeartbeats 8000000 in
set_option maxRecDepth 100000 in
theorem refOpenWant_any (x : WantB) (s : ByteArray) (w : World) (hn : x.name.size ≤ 30000) (hu : x.url.size ≤ 100000) (hs : s.size ≤ 1000000) :
    Calls Tryz.prog 36 #[.agg #[.string x.name, .string x.url, .string x.kind, .int .i64 x.strip, .int .i64 x.sum], .string s] w (RWOpenPost (openW x s) w) := by
  obtain ⟨i0, hi0, hz0, hz1, hz2⟩ := info_parts Tryz.infoFile
  obtain ⟨px, hpx⟩ : ∃ px, w.heap.size = px := ⟨_, rfl⟩
  obtain ⟨wx, hwx⟩ : ∃ wx, w.alloc (.cells #[.string x.name, .string x.url, .string x.kind, .int .i64 x.strip, .int .i64 x.sum] 51) = wx := ⟨_, rfl⟩
  have hbx : Below w.heap.size w wx := by rw [← hwx]; exact (Below.refl _ _).alloc (Nat.le_refl _) _
  have BX := Lib.hid (show WBox wx px x by rw [← hwx, ← hpx]; exact WBox.new w x)
  have HB := Lib.hid hbx
  have HWX := Lib.hid hwx
  have HPX := Lib.hid hpx
  have K1 := Lib.hid (fun c => @openW_check x s c)
  have K2 := Lib.hid (@openW_ref x s)
  obtain ⟨c0, c1, c2, c3, c4⟩ := BX.out.cells
  have C := Lib.hid (refWantError_any x wx (by omega) hu)
  clear hpx hwx hbx
  go_enter Tryz.func36, Tryz.ntmps36
  go_upto_region 1 with fail
  rw [HWX.out, HPX.out]
  go_wp2_with fail
  refine C.out.mono ?_
  clear C
  rintro e w1 ⟨rfl, hb1⟩
  have B1 := Lib.hid (HB.out.trans (hb1.mono HB.out.size))
  have BX1 := Lib.hid (BX.out.ext hb1)
  clear hb1 c0 c1 c2 c3 c4 BX
  cases hw : wantE x with
  | succ c =>
    have HX := Lib.hid (K1.out c hw)
    have hpos := @posN c
    clear hw
    generalize hnn : ((c + 1 : Nat) : Int) = n at hpos
    have HN := Lib.hid hnn
    clear hnn
    go_wp2_with fail
    go_ret2
    rw [← HN.out]
    exact RWOpenPost.none HX.out B1.out
  | zero =>
    have HX := Lib.hid (K2.out hw)
    obtain ⟨n1, n2, _, _⟩ := want_nums hw
    obtain ⟨k, hkk⟩ : ∃ k : Nat, x.strip = k := ⟨x.strip.toNat, by omega⟩
    have HWF : Hid ((Lit.int .i64 x.strip).wf = true) := by show _ = _; rw [hkk]; exact wf_len (by omega)
    rw [show ((0 : Nat) : Int) = 0 from rfl]
    obtain ⟨c0, _, c2, _, _⟩ := BX1.out.cells
    clear hw K1 K2 hkk n1 n2
    by_cases h20 : 20000 < s.size
    · have HY : Hid (openW x s = (2, [])) := by show _ = _; rw [HX.out, if_pos h20]
      go_wp2_with fail
      go_ret2
      exact RWOpenPost.none HY.out B1.out
    · have HX2 := HX.out
      rw [if_neg h20] at HX2
      have HX3 := Lib.hid HX2
      clear HX HX2
      have q1 := kind_eqb x.kind
      have q3 := kind_eqb3 x.kind
      by_cases hk1 : bl x.kind = kPlain
      · rw [decide_eq_true hk1] at q1
        have HX6 := HX3.out
        rw [if_pos hk1] at HX6
        have HX7 := Lib.hid HX6
        clear hk1 HX3 HX6 q3
        obtain ⟨wf, hwf⟩ : ∃ wf, w1.alloc (.cells #[.string x.name, .bool false, .string s] 24) = wf := ⟨_, rfl⟩
        have hbf : Below w1.heap.size w1 wf := by rw [← hwf]; exact (Below.refl _ _).alloc (Nat.le_refl _) _
        have HV : Hid (FArg wf (.slice (some ⟨w1.heap.size, 0, none⟩) 1 1) (oneFile x.name s)) := by
          show FArg _ _ _; rw [← hwf]; exact one_row w1 ⟨x.name, false, s⟩
        have BF := Lib.hid (B1.out.trans (hbf.mono B1.out.size))
        have HWf := Lib.hid hwf
        have C := Lib.hid (refTreeFault_any _ (oneFile x.name s) wf HV.out.1 (by simp [oneFile]) (fun g hg => by
          obtain rfl : g = ⟨x.name, false, s⟩ := by simpa [oneFile] using hg
          exact ⟨by show x.name.size ≤ _; omega, by show s.size ≤ _; omega⟩))
        clear hbf hwf
        go_wp2_with fail
        rw [HWf.out]
        refine C.out.mono ?_
        clear C
        rintro e w2 ⟨rfl, hb2⟩
        have B2 := Lib.hid (BF.out.trans (hb2.mono BF.out.size))
        have HV2 := Lib.hid (HV.out.ext hb2)
        obtain ⟨c, hc⟩ : ∃ c, (treeEr (oneFile x.name s)).code = c := ⟨_, rfl⟩
        obtain ⟨a, ha⟩ : ∃ a : Int, (treeEr (oneFile x.name s)).at?.getD (-1) = a := ⟨_, rfl⟩
        rw [show erA (treeEr (oneFile x.name s)) = #[.int .i64 c, .int .i64 a] by unfold erA; rw [hc, ha]]
        obtain ⟨q, hq⟩ : ∃ q, w2.heap.size = q := ⟨_, rfl⟩
        obtain ⟨wq, hwq⟩ : ∃ wq, w2.alloc (.cells #[.int .i64 c, .int .i64 a] 29) = wq := ⟨_, rfl⟩
        have hal : Below w2.heap.size w2 wq := by rw [← hwq]; exact (Below.refl _ _).alloc (Nat.le_refl _) _
        have FQ := Lib.hid (show FaultAt wq q c a by rw [← hwq, ← hq]; exact FaultAt.new w2 _ _)
        have BQ := Lib.hid (B2.out.trans (hal.mono B2.out.size))
        have HVQ := Lib.hid (HV2.out.ext hal)
        have HWQ := Lib.hid hwq
        have HQ := Lib.hid hq
        have HC := Lib.hid hc
        obtain ⟨x0, x1, _, _⟩ := FQ.out.cells
        clear hc ha hal hwq hq hb2 c0 c2 HV HV2
        go_upto_region 9 with fail
        rw [HWQ.out, HQ.out]
        by_cases hz : c = 0
        · subst hz
          have HY : Hid (openW x s = (0, oneFile x.name s)) := by show _ = _; rw [HX7.out, if_neg (by rw [HC.out]; simp)]
          clear HX7 HC
          go_wp2_with fail
          go_ret2
          exact RWOpenPost.some HY.out HVQ.out BQ.out
        · have HY : Hid (openW x s = (c, [])) := by show _ = _; rw [HX7.out, if_pos (by rw [HC.out]; exact hz), HC.out]
          have hpos : (0 : Int) < (c : Int) := by omega
          clear HX7 HC hz
          go_wp2_with fail
          go_quiet (fail)
          go_wp2_with fail
          go_ret2
          exact RWOpenPost.none HY.out (BQ.out.trans ((below_drewN _ _ _).mono BQ.out.size))
      · rw [decide_eq_false hk1] at q1
        have HX4 := HX3.out
        rw [if_neg hk1] at HX4
        have HX5 := Lib.hid HX4
        clear HX3 HX4 hk1 c0
        by_cases hk3 : bl x.kind = kPress
        · rw [decide_eq_true hk3] at q3
          have HX6 := HX5.out
          rw [if_pos hk3] at HX6
          have HX7 := Lib.hid HX6
          have C := Lib.hid (openOf_any s 20000 w1 (by omega) (by decide))
          clear hk3 HX5 HX6
          go_wp2_with fail
          refine C.out.mono ?_
          clear C
          rintro e w2 ⟨t, rfl, HT, hb2⟩
          have B2' := Lib.hid (B1.out.trans (hb2.mono B1.out.size))
          have BX2' := Lib.hid (BX1.out.ext hb2)
          have ht : t.size ≤ 20000 := by rw [← bl_length, HT.out]; exact openT_len _
          obtain ⟨oc, hoc⟩ : ∃ oc, (openE (runsL (bl s)) 20000).code = oc := ⟨_, rfl⟩
          obtain ⟨oa, hoa⟩ : ∃ oa : Int, (openE (runsL (bl s)) 20000).at?.getD (-1) = oa := ⟨_, rfl⟩
          rw [hoc, hoa]
          obtain ⟨q9, hq9⟩ : ∃ q9, w2.heap.size = q9 := ⟨_, rfl⟩
          obtain ⟨w9, hw9⟩ : ∃ w9, w2.alloc (.cells #[.int .i64 oc, .int .i64 oa] 29) = w9 := ⟨_, rfl⟩
          have hal9 : Below w2.heap.size w2 w9 := by rw [← hw9]; exact (Below.refl _ _).alloc (Nat.le_refl _) _
          have F9 := Lib.hid (show FaultAt w9 q9 oc oa by rw [← hw9, ← hq9]; exact FaultAt.new w2 _ _)
          have B2 := Lib.hid (B2'.out.trans (hal9.mono B2'.out.size))
          have BX2 := Lib.hid (BX2'.out.ext hal9)
          have HW9 := Lib.hid hw9
          have HQ9 := Lib.hid hq9
          have HOC := Lib.hid hoc
          obtain ⟨u0, u1, _, _⟩ := F9.out.cells
          clear c2 hb2 hoc hoa hal9 hw9 hq9 B2' BX2'
          rw [show faultV (oc : Int) oa = .agg #[.int .i64 oc, .int .i64 oa] from rfl]
          go_upto_region 14 with fail
          rw [HW9.out, HQ9.out]
          by_cases hz9 : oc = 0
          · subst hz9
            have HY : Hid (openW x s = unpackT (bl t) x.strip) := by show _ = _; rw [HX7.out, if_neg (by rw [HOC.out]; simp), HT.out]
            clear HX7 HOC
            have C := Lib.hid (refReadPack_any t w9 (by omega))
            go_wp2_with fail
            refine C.out.mono ?_
            clear C
            rintro e wr ⟨⟨v, rfl, HV⟩, hbr⟩
            have BR := Lib.hid (B2.out.trans (hbr.mono B2.out.size))
            have BXR := Lib.hid (BX2.out.ext hbr)
            obtain ⟨c, hc⟩ : ∃ c, (readEr (bl t)).code = c := ⟨_, rfl⟩
            obtain ⟨a, ha⟩ : ∃ a : Int, (readEr (bl t)).at?.getD (-1) = a := ⟨_, rfl⟩
            rw [show erA (readEr (bl t)) = #[.int .i64 c, .int .i64 a] by unfold erA; rw [hc, ha]]
            obtain ⟨q, hq⟩ : ∃ q, wr.heap.size = q := ⟨_, rfl⟩
            obtain ⟨wq, hwq⟩ : ∃ wq, wr.alloc (.cells #[.int .i64 c, .int .i64 a] 29) = wq := ⟨_, rfl⟩
            have hal : Below wr.heap.size wr wq := by rw [← hwq]; exact (Below.refl _ _).alloc (Nat.le_refl _) _
            have FQ := Lib.hid (show FaultAt wq q c a by rw [← hwq, ← hq]; exact FaultAt.new wr _ _)
            have BQ := Lib.hid (BR.out.trans (hal.mono BR.out.size))
            have BXQ := Lib.hid (BXR.out.ext hal)
            have HVQ := Lib.hid (HV.out.ext hal)
            have HWQ := Lib.hid hwq
            have HQ := Lib.hid hq
            have HC := Lib.hid hc
            have hwqq : w.heap.size ≤ q := by rw [← hq]; exact BR.out.size
            obtain ⟨x0, x1, _, _⟩ := FQ.out.cells
            clear hc ha hal hwq hq hbr HV BXR BR
            go_upto_region 18 with fail
            rw [HWQ.out, HQ.out]
            by_cases hz : c = 0
            · subst hz
              have ok := read_fine HC.out
              have C := Lib.hid (refStrip_any v (readT (bl t)) x.strip wq HVQ.out.1 (by have := ok.few; omega) (fun f hf => (ok.small f hf).1) ok.tight HWF.out (fun v l w h1 h2 h3 => refSort_any v l w h1 h2 h3))
              obtain ⟨_, _, _, d3, _⟩ := BXQ.out.cells
              clear ok
              go_wp2_with fail
              refine C.out.mono ?_
              clear C
              rintro e w3 ⟨⟨v3, rfl, HO3⟩, hb3⟩
              obtain ⟨d, hd⟩ : ∃ d, (stripTr (readT (bl t)) x.strip).1.code = d := ⟨_, rfl⟩
              obtain ⟨a3, ha3⟩ : ∃ a : Int, (stripTr (readT (bl t)) x.strip).1.at?.getD (-1) = a := ⟨_, rfl⟩
              rw [show erA (stripTr (readT (bl t)) x.strip).1 = #[.int .i64 d, .int .i64 a3] by unfold erA; rw [hd, ha3]]
              have F3 := Lib.hid (FQ.out.ext hb3)
              have B3 := Lib.hid (BQ.out.trans (hb3.mono BQ.out.size))
              have FE := fault_end F3.out d a3 w.heap.size hwqq
              have HO4 := Lib.hid (own_fault HO3.out F3.out FQ.out.lt d a3)
              have B4 := Lib.hid (B3.out.trans FE.2.2)
              obtain ⟨y0, y1, y2, y3⟩ := F3.out.cells
              have HD := Lib.hid hd
              obtain ⟨w4, hw4⟩ : ∃ w4, (w3.setCell ⟨q, 0, none⟩ (.int .i64 d)).setCell ⟨q, 1, none⟩ (.int .i64 a3) = w4 := ⟨_, rfl⟩
              rw [hw4] at FE HO4 B4
              have HW4 := Lib.hid hw4
              have z0 := FE.1
              clear hd ha3 hb3 x0 x1 d3 FE hw4
              go_upto_region 20 with fail
              rw [HW4.out]
              by_cases hdz : d = 0
              · subst hdz
                have HY2 : Hid (openW x s = (0, (stripTr (readT (bl t)) x.strip).2)) := by show _ = _; rw [HY.out, unpack_ok HC.out HD.out]
                clear HC HD HY y0 y1 y2 y3
                go_wp2_with fail
                go_ret2
                exact RWOpenPost.some HY2.out HO4.out.arg B4.out
              · have HY2 : Hid (openW x s = (d, [])) := by show _ = _; rw [HY.out, unpack_bad HC.out HD.out hdz]
                have hpos : (0 : Int) < (d : Int) := by omega
                clear HC HD HY hdz y0 y1 y2 y3
                go_wp2_with fail
                go_quiet (fail)
                go_wp2_with fail
                go_ret2
                exact RWOpenPost.none HY2.out (B4.out.trans ((below_drewN _ _ _).mono B4.out.size))
            · have HY2 : Hid (openW x s = (c, [])) := by show _ = _; rw [HY.out, unpackT_read _ (by rw [HC.out]; exact hz), HC.out]
              have hpos : (0 : Int) < (c : Int) := by omega
              have hne : ((c : Int) == 0) = false := by rw [beq_eq_false_iff_ne]; omega
              clear HC HY hz
              go_wp2_with fail
              go_quiet (fail)
              go_wp2_with fail
              go_ret2
              exact RWOpenPost.none HY2.out (BQ.out.trans ((below_drewN _ _ _).mono BQ.out.size))
          · have HY : Hid (openW x s = (oc, [])) := by show _ = _; rw [HX7.out, if_pos (by rw [HOC.out]; exact hz9), HOC.out]
            have hpos : (0 : Int) < (oc : Int) := by omega
            clear HX7 HOC hz9
            go_wp2_with fail
            go_quiet (fail)
            go_wp2_with fail
            go_ret2
            exact RWOpenPost.none HY.out (B2.out.trans ((below_drewN _ _ _).mono B2.out.size))
        · rw [decide_eq_false hk3] at q3
          have HY : Hid (openW x s = unpackT (bl s) x.strip) := by show _ = _; rw [HX5.out, if_neg hk3]
          clear hk3 HX5
          have C := Lib.hid (refReadPack_any s w1 (by omega))
          go_wp2_with fail
          refine C.out.mono ?_
          clear C
          rintro e wr ⟨⟨v, rfl, HV⟩, hbr⟩
          have BR := Lib.hid (B1.out.trans (hbr.mono B1.out.size))
          have BXR := Lib.hid (BX1.out.ext hbr)
          obtain ⟨c, hc⟩ : ∃ c, (readEr (bl s)).code = c := ⟨_, rfl⟩
          obtain ⟨a, ha⟩ : ∃ a : Int, (readEr (bl s)).at?.getD (-1) = a := ⟨_, rfl⟩
          rw [show erA (readEr (bl s)) = #[.int .i64 c, .int .i64 a] by unfold erA; rw [hc, ha]]
          obtain ⟨q, hq⟩ : ∃ q, wr.heap.size = q := ⟨_, rfl⟩
          obtain ⟨wq, hwq⟩ : ∃ wq, wr.alloc (.cells #[.int .i64 c, .int .i64 a] 29) = wq := ⟨_, rfl⟩
          have hal : Below wr.heap.size wr wq := by rw [← hwq]; exact (Below.refl _ _).alloc (Nat.le_refl _) _
          have FQ := Lib.hid (show FaultAt wq q c a by rw [← hwq, ← hq]; exact FaultAt.new wr _ _)
          have BQ := Lib.hid (BR.out.trans (hal.mono BR.out.size))
          have BXQ := Lib.hid (BXR.out.ext hal)
          have HVQ := Lib.hid (HV.out.ext hal)
          have HWQ := Lib.hid hwq
          have HQ := Lib.hid hq
          have HC := Lib.hid hc
          have hwqq : w.heap.size ≤ q := by rw [← hq]; exact BR.out.size
          obtain ⟨x0, x1, _, _⟩ := FQ.out.cells
          clear hc ha hal hwq hq hbr HV BXR BR
          go_upto_region 18 with fail
          rw [HWQ.out, HQ.out]
          by_cases hz : c = 0
          · subst hz
            have ok := read_fine HC.out
            have C := Lib.hid (refStrip_any v (readT (bl s)) x.strip wq HVQ.out.1 (by have := ok.few; omega) (fun f hf => (ok.small f hf).1) ok.tight HWF.out (fun v l w h1 h2 h3 => refSort_any v l w h1 h2 h3))
            obtain ⟨_, _, _, d3, _⟩ := BXQ.out.cells
            clear ok
            go_wp2_with fail
            refine C.out.mono ?_
            clear C
            rintro e w3 ⟨⟨v3, rfl, HO3⟩, hb3⟩
            obtain ⟨d, hd⟩ : ∃ d, (stripTr (readT (bl s)) x.strip).1.code = d := ⟨_, rfl⟩
            obtain ⟨a3, ha3⟩ : ∃ a : Int, (stripTr (readT (bl s)) x.strip).1.at?.getD (-1) = a := ⟨_, rfl⟩
            rw [show erA (stripTr (readT (bl s)) x.strip).1 = #[.int .i64 d, .int .i64 a3] by unfold erA; rw [hd, ha3]]
            have F3 := Lib.hid (FQ.out.ext hb3)
            have B3 := Lib.hid (BQ.out.trans (hb3.mono BQ.out.size))
            have FE := fault_end F3.out d a3 w.heap.size hwqq
            have HO4 := Lib.hid (own_fault HO3.out F3.out FQ.out.lt d a3)
            have B4 := Lib.hid (B3.out.trans FE.2.2)
            obtain ⟨y0, y1, y2, y3⟩ := F3.out.cells
            have HD := Lib.hid hd
            obtain ⟨w4, hw4⟩ : ∃ w4, (w3.setCell ⟨q, 0, none⟩ (.int .i64 d)).setCell ⟨q, 1, none⟩ (.int .i64 a3) = w4 := ⟨_, rfl⟩
            rw [hw4] at FE HO4 B4
            have HW4 := Lib.hid hw4
            have z0 := FE.1
            clear hd ha3 hb3 x0 x1 d3 FE hw4
            go_upto_region 20 with fail
            rw [HW4.out]
            by_cases hdz : d = 0
            · subst hdz
              have HY2 : Hid (openW x s = (0, (stripTr (readT (bl s)) x.strip).2)) := by show _ = _; rw [HY.out, unpack_ok HC.out HD.out]
              clear HC HD HY y0 y1 y2 y3
              go_wp2_with fail
              go_ret2
              exact RWOpenPost.some HY2.out HO4.out.arg B4.out
            · have HY2 : Hid (openW x s = (d, [])) := by show _ = _; rw [HY.out, unpack_bad HC.out HD.out hdz]
              have hpos : (0 : Int) < (d : Int) := by omega
              clear HC HD HY hdz y0 y1 y2 y3
              go_wp2_with fail
              go_quiet (fail)
              go_wp2_with fail
              go_ret2
              exact RWOpenPost.none HY2.out (B4.out.trans ((below_drewN _ _ _).mono B4.out.size))
          · have HY2 : Hid (openW x s = (c, [])) := by show _ = _; rw [HY.out, unpackT_read _ (by rw [HC.out]; exact hz), HC.out]
            have hpos : (0 : Int) < (c : Int) := by omega
            have hne : ((c : Int) == 0) = false := by rw [beq_eq_false_iff_ne]; omega
            clear HC HY hz
            go_wp2_with fail
            go_quiet (fail)
            go_wp2_with fail
            go_ret2
            exact RWOpenPost.none HY2.out (BQ.out.trans ((below_drewN _ _ _).mono BQ.out.size))

theorem packT_ok {l : List FileB} (h : TreeOk l) : packT l = packL l := by unfold packT; rw [if_pos (by rw [h.er])]

set_option maxHeartbeats 4000000 in
set_option maxRecDepth 100000 in
theorem refRightWant_any (x : WantB) (s : ByteArray) (w : World) (hn : x.name.size ≤ 30000) (hu : x.url.size ≤ 100000) (hs : s.size ≤ 1000000) :
    Calls Tryz.prog 38 #[.agg #[.string x.name, .string x.url, .string x.kind, .int .i64 x.strip, .int .i64 x.sum], .string s] w (RWOpenPost (rightW x s) w) := by
  obtain ⟨px, hpx⟩ : ∃ px, w.heap.size = px := ⟨_, rfl⟩
  obtain ⟨wx, hwx⟩ : ∃ wx, w.alloc (.cells #[.string x.name, .string x.url, .string x.kind, .int .i64 x.strip, .int .i64 x.sum] 51) = wx := ⟨_, rfl⟩
  have hbx : Below w.heap.size w wx := by rw [← hwx]; exact (Below.refl _ _).alloc (Nat.le_refl _) _
  have BX := Lib.hid (show WBox wx px x by rw [← hwx, ← hpx]; exact WBox.new w x)
  have HB := Lib.hid hbx
  have HWX := Lib.hid hwx
  have HPX := Lib.hid hpx
  have K1 := Lib.hid (fun c => @rightW_bad x s c)
  have K2 := Lib.hid (@rightW_from x s)
  have KOK := Lib.hid (@openW_ok x s)
  obtain ⟨c0, c1, c2, c3, c4⟩ := BX.out.cells
  have C := Lib.hid (refOpenWant_any x s wx hn hu hs)
  clear hpx hwx hbx
  go_enter Tryz.func38, Tryz.ntmps38
  go_upto_region 1 with fail
  rw [HWX.out, HPX.out]
  go_wp2_with fail
  refine C.out.mono ?_
  clear C
  rintro e w1 ⟨⟨v, rfl, HV⟩, hb1⟩
  have B1 := Lib.hid (HB.out.trans (hb1.mono HB.out.size))
  have BX1 := Lib.hid (BX.out.ext hb1)
  clear hb1 c0 c1 c2 c3 c4 BX
  obtain ⟨r, hr⟩ : ∃ r, openW x s = r := ⟨_, rfl⟩
  rw [hr] at HV KOK K1 K2 ⊢
  clear hr
  obtain ⟨c, l⟩ := r
  cases c with
  | succ c =>
    have HX := Lib.hid (K1.out c rfl)
    rw [show (((c + 1, l) : Nat × List FileB).1 : Int) = ((c + 1 : Nat) : Int) from rfl]
    have hpos := @posN c
    generalize hnn : ((c + 1 : Nat) : Int) = n at hpos
    have HN := Lib.hid hnn
    clear hnn
    go_wp2_with fail
    go_ret2
    rw [← HN.out]
    exact RWOpenPost.none HX.out B1.out
  | zero =>
    have ok : TreeOk l := KOK.out rfl
    have HX := Lib.hid (K2.out rfl)
    rw [show (((0, l) : Nat × List FileB).1 : Int) = 0 from rfl]
    have HPT : Hid (∀ W, Below w1.heap.size w1 W → Calls Tryz.prog 90 #[v] W fun e w' => ∃ t : ByteArray, e = .returned (.string t) ∧ Hid (bl t = packT l) ∧ t.size ≤ 1320000000 ∧ Below w1.heap.size w1 w') := fun W hW => by
      have hS : ∀ f ∈ l, SmallF f := fun f hf => (ok.small f hf).1
      refine (refPackText_any v l W (HV.out.ext hW).1 (by have := ok.few; omega) hS).mono ?_
      rintro e w' ⟨⟨t, rfl, h1⟩, h3⟩
      have h4 : bl t = packT l := by rw [h1.out, packT_ok ok]
      exact ⟨t, rfl, h4, by rw [← bl_length, h4]; have := packT_len l hS; have := ok.few; omega, hW.trans (h3.mono hW.size)⟩
    have HSO : Hid (∀ (t : ByteArray) W, t.size ≤ 1320000000 → Below w1.heap.size w1 W → Calls Tryz.prog 89 #[.string t] W fun e w' => e = .returned (.int .i64 (sumL (bl t) : Nat)) ∧ Below w1.heap.size w1 w') := fun t W ht hW => by
      refine (refSumOf_below t W (by omega)).mono ?_
      rintro e w' ⟨rfl, h3⟩
      exact ⟨rfl, hW.trans (h3.mono hW.size)⟩
    have KEEP : Hid (∀ W, Below w1.heap.size w1 W → W.cell? ⟨px, 4, none⟩ = some (.int .i64 x.sum)) := fun W hW => (BX1.out.ext hW).cells.2.2.2.2
    have c4 := KEEP.out w1 (Below.refl _ _)
    obtain ⟨n, hnn⟩ : ∃ n : Int, treeSum l = n := ⟨_, rfl⟩
    have HN : Hid (∀ t : ByteArray, bl t = packT l → ((sumL (bl t) : Nat) : Int) = n) := fun t ht => by rw [ht, ← hnn]; rfl
    have HN2 := Lib.hid hnn
    clear ok KOK K1 K2 hnn
    by_cases hne : n = x.sum
    · have HY : Hid (rightW x s = (0, l)) := by show _ = _; rw [HX.out, if_neg (by simpa [HN2.out] using hne)]
      have q := beq_self_eq_true x.sum
      clear HX
      subst hne
      go_wp2_with fail
      go_region_held3 (fun W : World => W.cell? ⟨px, 4, none⟩ = some (.int .i64 x.sum)) (first | go_keep | exact KEEP.out _ hb5 | exact KEEP.out _ hb6)
        (first
          | (go_at_call 90; refine (HPT.out _ (by first | exact (Below.refl _ _).drew)).mono ?_; rintro e w5 ⟨t5, rfl, H5, hs5, hb5⟩; have hq5 := HN.out t5 H5.out)
          | (go_at_call 89; refine (HSO.out t5 _ hs5 hb5).mono ?_; rintro e w6 ⟨rfl, hb6⟩; rw [hq5]))
      go_wp2_with fail
      go_ret2
      exact RWOpenPost.some HY.out (HV.out.ext hb6) (B1.out.trans (hb6.mono B1.out.size))
    · have HY : Hid (rightW x s = (12, [])) := by show _ = _; rw [HX.out, if_pos (by simpa [HN2.out] using hne)]
      have q : (n == x.sum) = false := beq_eq_false_iff_ne.2 hne
      clear HX hne
      go_wp2_with fail
      go_region_held3 (fun W : World => W.cell? ⟨px, 4, none⟩ = some (.int .i64 x.sum)) (first | go_keep | exact KEEP.out _ hb5 | exact KEEP.out _ hb6)
        (first
          | (go_at_call 90; refine (HPT.out _ (by first | exact (Below.refl _ _).drew)).mono ?_; rintro e w5 ⟨t5, rfl, H5, hs5, hb5⟩; have hq5 := HN.out t5 H5.out)
          | (go_at_call 89; refine (HSO.out t5 _ hs5 hb5).mono ?_; rintro e w6 ⟨rfl, hb6⟩; rw [hq5]))
      go_wp2_with fail
      go_ret2
      exact RWOpenPost.none HY.out (B1.out.trans (hb6.mono B1.out.size))
end Go.Proofs.YtamimigpnhblmaaGreatDoor
