/- chandlerylaw2.WantRight: the walk. -/
import Derived.Test.YtamimigpnhblmaaGreatDoorJWantTellsLaw
import Derived.Test.YtamimigpnhblmaaGreatDoorJRightPlains
import Derived.Test.YtamimigpnhblmaaGreatDoorJPressLong
import Derived.Test.YtamimigpnhblmaaGreatDoorJTreeLoops
import Derived.IntWalk
namespace Go.Proofs.YtamimigpnhblmaaGreatDoor
open Go Go.RowKit

theorem WBox.set4 {w : World} {p : Nat} {x : WantB} (h : WBox w p x) (n : Int) : WBox (w.setCell ⟨p, 4, none⟩ (.int .i64 n)) p { x with sum := n } := by
  unfold WBox at h ⊢
  simp [World.setCell, Array.getElem?_modify, h]
theorem WBox.set3 {w : World} {p : Nat} {x : WantB} (h : WBox w p x) (n : Int) : WBox (w.setCell ⟨p, 3, none⟩ (.int .i64 n)) p { x with strip := n } := by
  unfold WBox at h ⊢
  simp [World.setCell, Array.getElem?_modify, h]
theorem sum_next (n : Int) (h0 : 0 ≤ n) (h1 : n < 1000000007) : 0 ≤ (n + 1) % 1000000007 ∧ (n + 1) % 1000000007 < 1000000007 ∧ n ≠ (n + 1) % 1000000007 := by
  refine ⟨Int.emod_nonneg _ (by decide), Int.emod_lt_of_pos _ (by decide), fun e => ?_⟩
  by_cases h2 : n + 1 < 1000000007
  · rw [Int.emod_eq_of_lt (by omega) h2] at e; omega
  · have : n + 1 = 1000000007 := by omega
    rw [this] at e; simp at e; omega

set_option maxHeartbeats 8000000 in
set_option maxRecDepth 100000 in
theorem wantRight_walk {E : Nat → Addr} {w : World} (hE : REnv E w) (x : WantB) (v : Value) (l : List FileB) (hv : FArg w v l) (d : ByteArray) :
    Calls Tryz.prog 5 #[.agg #[.string x.name, .string x.url, .string x.kind, .int .i64 x.strip, .int .i64 x.sum], v, .string d] w fun e w' => e = .returned (.bool true) ∧ Below w.heap.size w w' := by
  obtain ⟨px, hpx⟩ : ∃ px, w.heap.size = px := ⟨_, rfl⟩
  obtain ⟨wx, hwx⟩ : ∃ wx, w.alloc (.cells #[.string x.name, .string x.url, .string x.kind, .int .i64 x.strip, .int .i64 x.sum] 51) = wx := ⟨_, rfl⟩
  have hbx : Below w.heap.size w wx := by rw [← hwx]; exact (Below.refl _ _).alloc (Nat.le_refl _) _
  have BX := Lib.hid (show WBox wx px x by rw [← hwx, ← hpx]; exact WBox.new w x)
  have hpw : w.heap.size ≤ px := Nat.le_of_eq hpx
  have HB := Lib.hid hbx
  have HE := Lib.hid hE
  have HV := Lib.hid hv
  obtain ⟨vo, vc, rfl⟩ := hv.1.len
  have HWX := Lib.hid hwx
  have HPX := Lib.hid hpx
  have mixed : Tryz.prog.follows .mixedOrders = true := by kernel_rfl
  have C := Lib.hid (wanted_any wx (hE.ext hbx))
  clear hpx hwx hbx hE hv
  go_enter Tryz.func5, Tryz.ntmps5
  go_upto_region 1 with fail
  rw [HWX.out, HPX.out]
  go_wp2_with fail
  refine C.out.mono ?_
  clear C
  rintro e w1 ⟨rfl, hb1⟩
  have B1 := Lib.hid (HB.out.trans (hb1.mono HB.out.size))
  have BX1 := Lib.hid (BX.out.ext hb1)
  clear hb1 BX
  obtain ⟨c0, c1, c2, c3, c4⟩ := BX1.out.cells
  go_upto_region 2 with fail
  go_cut [34] from 18 (fun v wv => ∃ bb : Bool, v = .bool bb ∧ Hid (bb = false → longW x = 0 ∧ longN l = 0 ∧ d.size ≤ 60) ∧ Hid (Below w1.heap.size w1 wv))
  case first => as_aux_lemma =>
    go_wp2_with fail
    refine (longWant_any x w1).mono ?_
    rintro e w2 ⟨rfl, hb2⟩
    obtain ⟨n, hnn⟩ : ∃ n, longW x = n := ⟨_, rfl⟩
    rw [hnn]
    have HN := Lib.hid hnn
    have HB2 := Lib.hid hb2
    clear hnn hb2
    by_cases hl : n = 0
    rotate_left
    · have hpos : (0 : Int) < (n : Int) := by omega
      clear hl
      go_wp2_with fail
      go_meet
      case rel => exact ⟨true, rfl, (fun h => by cases h), HB2⟩
    · subst hl
      rw [show ((0 : Nat) : Int) = 0 from rfl]
      have C := Lib.hid (longFiles_exact _ l w2 (HV.out.ext (B1.out.trans (HB2.out.mono B1.out.size))).1)
      obtain ⟨m, hmm⟩ : ∃ m, longN l = m := ⟨_, rfl⟩
      rw [hmm] at C
      have HM := Lib.hid hmm
      clear hmm
      go_wp2_with fail
      refine C.out.mono ?_
      clear C
      rintro e w3 ⟨rfl, rfl⟩
      by_cases hm : m = 0
      rotate_left
      · have hpos : (0 : Int) < (m : Int) := by omega
        clear hm
        go_wp2_with fail
        go_meet
        case rel => exact ⟨true, rfl, (fun h => by cases h), HB2⟩
      · subst hm
        rw [show ((0 : Nat) : Int) = 0 from rfl]
        by_cases hd : 60 < d.size
        · go_wp2_with fail
          go_meet
          case rel => exact ⟨_, rfl, (fun h => by first | (cases h; done) | (simp at h; omega)), HB2⟩
        · go_wp2_with fail
          go_meet
          case rel => exact ⟨_, rfl, (fun _ => ⟨HN.out, HM.out, by omega⟩), HB2⟩
  case rest => as_aux_lemma =>
  rename World => w2
  obtain ⟨bb, rfl, HBB, HB2⟩ := hcut
  have B2 := Lib.hid (B1.out.trans (HB2.out.mono B1.out.size))
  have BX2 := Lib.hid (BX1.out.ext HB2.out)
  clear BX1 c0 c1 c2 c3 c4 HB2
  cases bb with
  | true =>
    go_wp2_with fail
    go_ret
    exact ⟨rfl, B2.out⟩
  | false =>
  obtain ⟨hl, hln, hd60⟩ := HBB.out rfl
  obtain ⟨sz0, sz1, sz2⟩ := longW_zero hl
  obtain ⟨hl31, hls⟩ := longN_zero hln
  have HS : Hid (∀ f ∈ l, SmallF f ∧ f.path.size ≤ 9000) := fun f hf => by have := hls f hf; exact ⟨⟨by omega, by omega⟩, by omega⟩
  have HPW : Hid (w.heap.size ≤ px) := hpw
  clear hl hln HBB hls
  have C := Lib.hid (ownFiles_any _ l w2 (by omega) (HV.out.ext B2.out))
  go_wp2_with fail
  refine C.out.mono ?_
  clear C
  rintro e w3 ⟨⟨ov, rfl, HO⟩, hb3⟩
  have B3 := Lib.hid (B2.out.trans (hb3.mono B2.out.size))
  have BX3 := Lib.hid (BX2.out.ext hb3)
  have C := Lib.hid (packSum_any ov l w3 HO.out.row (by omega) (fun f hf => (HS.out f hf).1) (HE.out.ext B3.out).1)
  clear hb3 HO BX2
  go_wp2_with fail
  refine C.out.mono ?_
  clear C
  rintro e w4 ⟨⟨ev, rfl, HI⟩, hb4⟩
  have B4 := Lib.hid (B3.out.trans (hb4.mono B3.out.size))
  have BX4 := Lib.hid (BX3.out.ext hb4)
  clear hb4 BX3
  obtain ⟨n, hnn⟩ : ∃ n : Int, ((sumL (packT l) : Nat) : Int) = n := ⟨_, rfl⟩
  have HN : Hid (treeSum l = n) := hnn
  have hn0 : 0 ≤ n ∧ n < 1000000007 := by rw [← hnn]; exact treeSum_right l
  rw [hnn]
  obtain ⟨y, hy⟩ : ∃ y : WantB, ({ x with sum := n } : WantB) = y := ⟨_, rfl⟩
  have BY := Lib.hid (show WBox (w4.setCell ⟨px, 4, none⟩ (.int .i64 n)) px y by rw [← hy]; exact BX4.out.set4 n)
  have B5 := Lib.hid (B4.out.trans ((Below.refl w.heap.size w4).setCell (p := ⟨px, 4, none⟩) hpw (.int .i64 n)))
  obtain ⟨_, _, _, _, c4⟩ := BX4.out.cells
  obtain ⟨_, _, _, _, f4⟩ := BX4.out.froz
  have hyn : y.name.size ≤ 30 := by rw [← hy]; exact sz0
  have hyu : y.url.size ≤ 120 := by rw [← hy]; exact sz1
  have hys : y.sum = n := by rw [← hy]
  have HYS := Lib.hid hys
  have HN0 := Lib.hid hn0
  by_cases hz : (treeEr l).code = 0
  rotate_left
  · obtain ⟨ty, u, rfl⟩ := HI.out.some_inv hz
    clear hz HI hnn hn0 hy hys
    go_wp2_with fail
    go_ret
    exact ⟨rfl, B5.out⟩
  have ok := Lib.hid ((treeOk_iff l).1 hz)
  obtain rfl : ev = .nilIface := HI.out.zero hz
  obtain ⟨w5, hw5⟩ : ∃ w5, w4.setCell ⟨px, 4, none⟩ (.int .i64 n) = w5 := ⟨_, rfl⟩
  rw [hw5] at BY B5
  have HW5 := Lib.hid hw5
  clear hz HI hnn hn0 hy hys hw5 sz0 sz1 sz2
  go_upto_region 6 with fail
  rw [HW5.out]
  clear c4 f4
  obtain ⟨c0, c1, c2, c3, c4⟩ := BY.out.cells
  have C := Lib.hid (wantCheck_any y w5 (by omega) (by omega) (HE.out.ext B5.out).1.1)
  go_wp2_with fail
  refine C.out.mono ?_
  clear C
  rintro e w6 ⟨rfl, hb6⟩
  have B6 := Lib.hid (B5.out.trans (hb6.mono B5.out.size))
  have BY6 := Lib.hid (BY.out.ext hb6)
  clear hb6 c0 c1 c2 c3 c4 BY B5
  cases hw : wantE y with
  | succ c =>
    rw [show errV E (c + 1) = sentV E c from rfl]
    clear hw
    go_wp2_with fail
    go_ret
    exact ⟨rfl, B6.out⟩
  | zero =>
  have HW := Lib.hid hw
  rw [show errV E 0 = .nilIface from rfl]
  clear hw
  obtain ⟨_, _, c2, c3, _⟩ := BY6.out.cells
  obtain ⟨_, _, _, f3, _⟩ := BY6.out.froz
  have q := kind_eqb y.kind
  by_cases hk : bl y.kind = kPlain
  · rw [decide_eq_true hk] at q
    clear hk
    go_wp2_with fail
    go_ret
    exact ⟨rfl, B6.out⟩
  rw [decide_eq_false hk] at q
  have HK := Lib.hid hk
  have BZ := Lib.hid (BY6.out.set3 0)
  have B7 := Lib.hid (B6.out.trans ((Below.refl w.heap.size w6).setCell (p := ⟨px, 3, none⟩) hpw (.int .i64 0)))
  obtain ⟨w7, hw7⟩ : ∃ w7, w6.setCell ⟨px, 3, none⟩ (.int .i64 0) = w7 := ⟨_, rfl⟩
  rw [hw7] at BZ B7
  have HW7 := Lib.hid hw7
  clear hw7 hk
  go_upto_region 9 with fail
  rw [HW7.out]
  clear c2 c3 f3 q BY6 B6
  have C := Lib.hid (ownFiles_any _ l w7 (by omega) (HV.out.ext B7.out))
  go_wp2_with fail
  refine C.out.mono ?_
  clear C
  rintro e w8 ⟨⟨tv0, rfl, HO8⟩, hb8⟩
  have B8 := Lib.hid (B7.out.trans (hb8.mono B7.out.size))
  have BZ8 := Lib.hid (BZ.out.ext hb8)
  have hpx8 : px < w8.heap.size := BZ8.out.lt
  clear hb8 BZ B7
  obtain ⟨o8, k8, rfl⟩ := HO8.out.shape
  obtain ⟨dq, hdq⟩ : ∃ dq : Bool, (d.toList == []) = dq := ⟨_, rfl⟩
  have HDQ := Lib.hid hdq
  go_upto_if 60 with fail
  clear hdq
  go_cut [10] from 61 (fun tv wv => ∃ (t : List FileB) (k : Nat) (tto : Option Addr) (tc : Nat), tv = .slice tto t.length tc ∧ Hid (FRow wv tv t) ∧ Hid (TreeOk t ∧ stripTr t (k : Int) = (⟨0, none⟩, l) ∧ k ≤ 6) ∧ Hid (WBox wv px { y with strip := k }) ∧ Hid (Below w.heap.size w wv))
  case first => as_aux_lemma =>
    by_cases hd : d = ⟨#[]⟩
    · obtain rfl : dq = true := by rw [← HDQ.out, hd, toList_bl]; rfl
      clear hd
      go_wp2_with fail
      go_meet
      case rel => exact ⟨l, 0, _, _, rfl, HO8.out.row, ⟨ok.out, strip_none ok.out, by decide⟩, BZ8, B8⟩
    · obtain rfl : dq = false := by
        rw [← HDQ.out, beq_eq_false_iff_ne]; intro e; exact hd (bl_inj (by rw [← toList_bl, e]; rfl))
      have C := Lib.hid (treeGraft_any (.slice none 0 0) _ [] l d w8 (FOwn.nil w8 0).arg (HV.out.ext B8.out).1 (by decide) (by omega) (fun f hf => by cases hf) (fun f hf => (HS.out f hf).1) (fun f hf => (HS.out f hf).2) (by omega) (HE.out.ext B8.out).1.1)
      clear hd
      go_wp2_with fail
      refine C.out.mono ?_
      clear C
      rintro e w9 ⟨⟨xv, ev, rfl, HI, HO⟩, hb9⟩
      have B9 := Lib.hid (B8.out.trans (hb9.mono B8.out.size))
      have BZ9 := Lib.hid (BZ8.out.ext hb9)
      clear hb9
      by_cases hc : (graftT [] d l).1.code = 0
      rotate_left
      · obtain ⟨ty, u, rfl⟩ := IsErr.some_inv HI.out hc
        clear hc HI HO
        go_wp2_with fail
        go_ret
        exact ⟨rfl, B9.out⟩
      obtain ⟨hG, hr⟩ := graft_ok hc
      rw [hr] at HI
      obtain rfl := IsErr.nil_inv HI.out
      have HG := Lib.hid hG
      clear hc hr hG HI
      obtain ⟨t, ht⟩ : ∃ t, (graftT [] d l).2 = t := ⟨_, rfl⟩
      rw [ht] at HG HO
      clear ht
      obtain ⟨xo, xc, rfl⟩ := HO.out.shape
      have C := Lib.hid (refCut_any d 47 w9 (by omega))
      go_wp2_with fail
      refine C.out.mono ?_
      clear C
      rintro e wa ⟨cv, zs, rfl, HR, HZ, hzl, hba⟩
      have hzn : zs.length = (cutL 47 (bl d)).length := by rw [← HZ.out, List.length_map]
      have hz6 : zs.length ≤ 6 := by rw [hzn]; exact (partsE_ok HG.out.hd).2
      have HST : Hid (stripTr t (zs.length : Nat) = (⟨0, none⟩, l)) := by show _ = _; rw [hzn]; exact HG.out.strips
      have Ba := Lib.hid (B9.out.trans (hba.mono B9.out.size))
      have BZa := Lib.hid (BZ9.out.ext hba)
      have HOa := Lib.hid (HO.out.ext hba)
      obtain ⟨co, cc, rfl⟩ : ∃ co cc, cv = .slice co zs.length cc := by
        rcases HR.out with ⟨rfl, rfl⟩ | ⟨q, off, cap, rfl, _⟩
        · exact ⟨_, _, rfl⟩
        · exact ⟨_, _, rfl⟩
      obtain ⟨zn, hzz⟩ : ∃ zn, zs.length = zn := ⟨_, rfl⟩
      rw [hzz] at HST hz6 ⊢
      obtain ⟨_, _, _, c3, _⟩ := BZa.out.cells
      obtain ⟨_, _, _, f3, _⟩ := BZa.out.froz
      have BZb : Hid (WBox (wa.setCell ⟨px, 3, none⟩ (.int .i64 (zn : Nat))) px { y with strip := zn }) := BZa.out.set3 (zn : Nat)
      have Bb := Lib.hid (Ba.out.trans ((Below.refl w.heap.size wa).setCell (p := ⟨px, 3, none⟩) hpw (.int .i64 (zn : Nat))))
      have HOb : Hid (FOwn (wa.setCell ⟨px, 3, none⟩ (.int .i64 (zn : Nat))) w8.heap.size (.slice xo t.length xc) t) := FOwn.store HOa.out (fun g hg => by have := (World.ownsRow.lt HOa.out g hg).1; omega) _
      clear HR HZ hba hzn hzl hzz HO HOa B9 BZ9
      go_wp2_with fail
      go_meet
      case rel => exact ⟨t, zn, _, _, rfl, HOb.out.row, ⟨HG.out.ok, HST.out, hz6⟩, BZb, Bb⟩
  case rest => as_aux_lemma =>
  clear B8 BZ8 HO8
  rename World => wq
  obtain ⟨t, k, tto, tc, rfl, HTR, HTK, BT, Bq⟩ := hcut
  have tok := Lib.hid HTK.out.1
  obtain ⟨z, hzz⟩ : ∃ z : WantB, ({ y with strip := (k : Int) } : WantB) = z := ⟨_, rfl⟩
  have BZ : Hid (WBox wq px z) := by show WBox _ _ _; rw [← hzz]; exact BT.out
  have HZE : Hid (wantE z = 0) := by show _ = _; rw [← hzz]; exact want_strip HW.out HK.out k (by omega) (by have := HTK.out.2.2; omega)
  have HZK : Hid (bl z.kind ≠ kPlain) := by show _ ≠ _; rw [← hzz]; exact HK.out
  have HZT : Hid (stripTr t z.strip = (⟨0, none⟩, l)) := by show _ = _; rw [← hzz]; exact HTK.out.2.1
  have HZS : Hid (treeSum l = z.sum) := by show _ = _; rw [← hzz, HN.out]; exact HYS.out.symm
  have hzs : z.sum = n := by rw [← hzz]; exact HYS.out
  have hzn : z.name.size ≤ 30 := by rw [← hzz]; exact hyn
  have hzu : z.url.size ≤ 120 := by rw [← hzz]; exact hyu
  have HSN := Lib.hid hzs
  have C := Lib.hid (packMake_any (.slice tto t.length tc) t wq HTR.out (by have := tok.out.few; omega) (fun f hf => (tok.out.small f hf).1) (HE.out.ext Bq.out).1)
  clear hzz hzs BT HTK HTR
  go_wp2_with fail
  refine C.out.mono ?_
  clear C
  rintro e wr ⟨⟨s, ev, rfl, HT, HI⟩, hbr⟩
  obtain rfl : ev = .nilIface := HI.out.zero (by rw [tok.out.er])
  have HTL : Hid (bl s = packL t) := by show _ = _; rw [HT.out, packT_ok tok.out]
  have hs20 : s.size ≤ 20000 := by rw [← bl_length, HTL.out]; exact packL_fits ((treeOk_iff t).2 tok.out)
  have Br := Lib.hid (Bq.out.trans (hbr.mono Bq.out.size))
  have BZr := Lib.hid (BZ.out.ext hbr)
  clear hbr HI HT Bq BZ
  obtain ⟨_, _, c2, _, _⟩ := BZr.out.cells
  obtain ⟨kq, hkq⟩ : ∃ kq : Bool, (z.kind.toList == [112, 114, 101, 115, 115]) = kq := ⟨_, rfl⟩
  have HKQ : Hid (decide (bl z.kind = kPress) = kq) := by show _ = _; rw [← kind_eqb3, hkq]
  go_upto_if 83 with fail
  clear hkq c2
  go_cut [13] from 84 (fun sv wv => ∃ u : ByteArray, sv = .string u ∧ Hid ((bl z.kind = kPress → bl u = pressL (packL t)) ∧ (bl z.kind ≠ kPress → bl u = packL t)) ∧ Hid (u.size ≤ 1000000 ∨ 20000 < u.size) ∧ Hid (WBox wv px z) ∧ Hid (Below w.heap.size w wv))
  case first => as_aux_lemma =>
    cases kq with
    | true =>
      have hk3 : bl z.kind = kPress := of_decide_eq_true HKQ.out
      have HK3 := Lib.hid hk3
      have C := Lib.hid (press_any s wr (by omega) (HE.out.ext Br.out).1.2)
      clear hk3
      go_wp2_with fail
      refine C.out.mono ?_
      clear C
      rintro e ws ⟨u, rfl, HU, hbs⟩
      have HU2 : Hid ((bl z.kind = kPress → bl u = pressL (packL t)) ∧ (bl z.kind ≠ kPress → bl u = packL t)) := ⟨fun _ => by rw [HU.out, HTL.out], fun h => absurd HK3.out h⟩
      have BZs := Lib.hid (BZr.out.ext hbs)
      have Bs := Lib.hid (Br.out.trans (hbs.mono Br.out.size))
      clear hbs HU
      go_wp2_with fail
      go_meet
      case rel => exact ⟨u, rfl, HU2, (by show _ ∨ _; omega), BZs, Bs⟩
    | false =>
      have hk3 : ¬ bl z.kind = kPress := of_decide_eq_false HKQ.out
      have HU2 : Hid ((bl z.kind = kPress → bl s = pressL (packL t)) ∧ (bl z.kind ≠ kPress → bl s = packL t)) := ⟨fun h => absurd h hk3, fun _ => HTL.out⟩
      clear hk3
      go_wp2_with fail
      go_meet
      case rel => exact ⟨s, rfl, HU2, (by show _ ∨ _; omega), BZr, Br⟩
  case rest => as_aux_lemma =>
  clear Br BZr HTL HKQ hs20
  rename World => ws
  obtain ⟨u, rfl, HU, hsz, BZs, Bs⟩ := hcut
  clear hsz
  by_cases h20 : 20000 < u.size
  · go_wp2_with fail
    go_ret
    exact ⟨rfl, Bs.out⟩
  have hu20 : u.size ≤ 20000 := by omega
  have LAW := Lib.hid (right_law HZE.out HZK.out HZS.out tok.out HZT.out HU.out.1 HU.out.2 hu20)
  obtain ⟨c0, c1, c2, c3, c4⟩ := BZs.out.cells
  have C := Lib.hid (wantRight_any z u ws (by omega) (by omega) (by omega) (HE.out.ext Bs.out))
  rw [LAW.out.2] at C
  clear HU HZT tok
  go_wp2_with fail
  refine C.out.mono ?_
  clear C
  rintro e wt ⟨⟨rv, rfl, HR⟩, hbt⟩
  rw [show errV E ((0, l) : Nat × List FileB).1 = .nilIface from rfl]
  have Bt := Lib.hid (Bs.out.trans (hbt.mono Bs.out.size))
  have BZt := Lib.hid (BZs.out.ext hbt)
  clear hbt c0 c1 c2 c3 c4 Bs BZs
  have C := Lib.hid (treeSame_any (l := l) (m := l) HR.out.1 (HV.out.ext Bt.out).1 (by omega))
  rw [decide_eq_true (show l = l from rfl)] at C
  clear HR
  go_wp2_with fail
  refine C.out.mono ?_
  clear C
  rintro e wu ⟨rfl, hbu⟩
  have Bu := Lib.hid (Bt.out.trans (hbu.mono Bt.out.size))
  have BZu := Lib.hid (BZt.out.ext hbu)
  clear hbu Bt BZt
  obtain ⟨c0, c1, c2, c3, c4⟩ := BZu.out.cells
  have C := Lib.hid (wantOpen_any z u wu (by omega) (by omega) (by omega) (HE.out.ext Bu.out))
  rw [LAW.out.1] at C
  go_wp2_with fail
  refine C.out.mono ?_
  clear C
  rintro e wv ⟨⟨rv2, rfl, HR⟩, hbv⟩
  rw [show errV E ((0, l) : Nat × List FileB).1 = .nilIface from rfl]
  have Bv := Lib.hid (Bu.out.trans (hbv.mono Bu.out.size))
  have BZv := Lib.hid (BZu.out.ext hbv)
  clear hbv c0 c1 c2 c3 c4 Bu BZu
  have C := Lib.hid (treeSame_any (l := l) (m := l) HR.out.1 (HV.out.ext Bv.out).1 (by omega))
  rw [decide_eq_true (show l = l from rfl)] at C
  clear HR
  go_wp2_with fail
  refine C.out.mono ?_
  clear C
  rintro e ww ⟨rfl, hbw⟩
  have Bw := Lib.hid (Bv.out.trans (hbw.mono Bv.out.size))
  have BZw := Lib.hid (BZv.out.ext hbw)
  clear hbw Bv BZv
  go_upto_region 29 with fail
  obtain ⟨_, _, _, _, c4⟩ := BZw.out.cells
  obtain ⟨_, _, _, _, f4⟩ := BZw.out.froz
  rw [HSN.out] at c4
  obtain ⟨hn0, hn1⟩ := HN0.out
  go_upto_region 30 with fail
  obtain ⟨m, hm⟩ : ∃ m, (n + 1) % 1000000007 = m := ⟨_, rfl⟩
  have HM : Hid (0 ≤ m ∧ m < 1000000007 ∧ n ≠ m) := by have := sum_next n hn0 hn1; rw [hm] at this; exact this
  rw [hm]
  clear hm hn0 hn1
  obtain ⟨z2, hz2⟩ : ∃ z2 : WantB, ({ z with sum := m } : WantB) = z2 := ⟨_, rfl⟩
  have BZ2 := Lib.hid (show WBox (ww.setCell ⟨px, 4, none⟩ (.int .i64 m)) px z2 by rw [← hz2]; exact BZw.out.set4 m)
  have Bz := Lib.hid (Bw.out.trans ((Below.refl w.heap.size ww).setCell (p := ⟨px, 4, none⟩) HPW.out (.int .i64 m)))
  have HRW : Hid (rightW z2 u = (12, [])) := by
    show _ = _
    rw [← hz2]
    refine wrong_law (l := l) ?_ ?_
    · rw [openW_sum HZE.out m HM.out.1 HM.out.2.1]; exact LAW.out.1
    · show treeSum l ≠ m
      rw [HZS.out, HSN.out]; exact HM.out.2.2
  have hz2n : z2.name.size ≤ 30 := by rw [← hz2]; exact hzn
  have hz2u : z2.url.size ≤ 120 := by rw [← hz2]; exact hzu
  obtain ⟨wz, hwz⟩ : ∃ wz, ww.setCell ⟨px, 4, none⟩ (.int .i64 m) = wz := ⟨_, rfl⟩
  rw [hwz] at BZ2 Bz
  rw [hwz]
  clear hwz hz2 c4 f4 Bw BZw
  obtain ⟨c0, c1, c2, c3, c4⟩ := BZ2.out.cells
  have C := Lib.hid (wantRight_any z2 u wz (by omega) (by omega) (by omega) (HE.out.ext Bz.out))
  rw [HRW.out] at C
  have HC : Hid (∀ W, Env E W → Calls Tryz.prog 28 #[sentV E 11, .int .i64 12] W fun e w' => e = .returned (.bool true) ∧ Below W.heap.size W w') := fun W hW => errCoded2 (c := 12) hW (by decide)
  go_wp2_with fail
  refine C.out.mono ?_
  clear C
  rintro e wA ⟨⟨rv3, rfl, HR⟩, hbA⟩
  rw [show errV E ((12, ([] : List FileB)) : Nat × List FileB).1 = sentV E 11 from rfl]
  have BA := Lib.hid (Bz.out.trans (hbA.mono Bz.out.size))
  obtain ⟨ro, rc, rfl⟩ : ∃ ro rc, rv3 = .slice ro 0 rc := HR.out.1.len
  clear hbA c0 c1 c2 c3 c4 Bz BZ2 HR
  go_wp2_with fail
  refine (HC.out wA (HE.out.ext BA.out).1.1.1).mono ?_
  rintro e wB ⟨rfl, hbB⟩
  go_wp2_with fail
  go_ret
  exact ⟨rfl, BA.out.trans (hbB.mono BA.out.size)⟩
end Go.Proofs.YtamimigpnhblmaaGreatDoor
