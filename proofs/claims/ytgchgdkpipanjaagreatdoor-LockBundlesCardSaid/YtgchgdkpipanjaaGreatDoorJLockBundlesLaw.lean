/- chandlerylaw3.LockBundles: the walk. -/
import Derived.Test.YtgchgdkpipanjaaGreatDoorJLockThrees
import Derived.Test.YtgchgdkpipanjaaGreatDoorJLockHeldUp
import Derived.Test.YtgchgdkpipanjaaGreatDoorJRefBundles
import Derived.Test.YtgchgdkpipanjaaGreatDoorJHeldFacts
import Derived.Test.YtgchgdkpipanjaaGreatDoorJRefTreeUp
import Derived.Test.YtgchgdkpipanjaaGreatDoorJWantAppends
namespace Go.Proofs.YtgchgdkpipanjaaGreatDoor
open Go Go.RowKit Go.Maps

theorem heldRow_fault (cs : Array Value) : ¬ HeldRow (.cells cs 59 (0, 0)) := by
  rintro (⟨es, c, h⟩ | ⟨cs', fz, h⟩)
  · cases h
  · injection h with _ h _; exact absurd h (by decide)
theorem HeldIs.faulted {w : World} {B b g : Nat} {h : HeldB} {a c : Value} (hi : HeldIs w B b h) (hg : w.heap[g]? = some (.cells #[a, c] 59 (0, 0))) (x y : Value) : HeldIs ((w.setCell ⟨g, 0, none⟩ x).setCell ⟨g, 1, none⟩ y) B b h :=
  hi.keeps (fault_keeps hg x y) (fun es c ⟨_, _, h⟩ => by cases h) (fun cs fz ⟨_, _, h⟩ => by injection h with _ h _; exact absurd h (by decide)) (fun cs ⟨_, _, h⟩ => by injection h with _ h _; exact absurd h (by decide)) (fun cs ⟨_, _, h⟩ => by injection h with _ h _; exact absurd h (by decide))

set_option maxHeartbeats 4000000 in
set_option maxRecDepth 100000 in
theorem lockBundles_walk {E : Nat → Addr} {w : World} (hR : REnv E w) (most : Int) (va vb : Value) (L : List (Value × List FileB)) (l : List WantB) (s : ByteArray) (hva : ZRow w va L) (hvb : WArg w vb l) :
    Calls Tryz.prog 6 #[.int .i64 most, va, vb, .string s] w fun e w' => e = .returned (.bool true) ∧ Below w.heap.size w w' := by
  have HA := Lib.hid hva
  have HB := Lib.hid hvb
  have HE := Lib.hid hR
  have CL := Lib.hid (locked_any w hR.1)
  have CLT : Hid (∀ W, Below w.heap.size w W → Calls Tryz.prog 18 #[va] W (LTPost L W)) := fun W hW => longTrees_any va L W (HA.out.ext hW)
  obtain ⟨ao, ac, rfl⟩ := hva.len
  obtain ⟨bo, bc, rfl⟩ := hvb.1.len
  clear hva hvb hR
  go_enter Tryz.func6, Tryz.ntmps6
  go_wp2_with fail
  refine CL.out.mono ?_
  clear CL
  rintro e w1 ⟨rfl, hb1⟩
  have B1 := Lib.hid hb1
  clear hb1
  go_wp2_with fail
  refine (CLT.out w1 B1.out).mono ?_
  clear CLT
  rintro e w2 ⟨⟨r, rfl, HLT⟩, rfl⟩
  cases r with
  | true =>
    go_wp2_with fail
    go_ret
    exact ⟨rfl, B1.out⟩
  | false =>
  have HL := Lib.hid (HLT.out rfl)
  clear HLT
  have C := Lib.hid (longWants_any (.slice bo l.length bc) l w1 (HB.out.ext B1.out).1)
  go_wp2_with fail
  refine C.out.mono ?_
  clear C
  rintro e w2 ⟨rfl, hb2⟩
  have B2 := Lib.hid (B1.out.trans (hb2.mono B1.out.size))
  clear hb2 B1
  cases hll : longLs l with
  | true =>
    go_wp2_with fail
    go_ret
    exact ⟨rfl, B2.out⟩
  | false =>
  have hl22 := (longLs_false hll).1
  have HSW := Lib.hid (longLs_small hll)
  clear hll
  by_cases hs : (3000 < s.size ∧ s.size ≠ 20001)
  · have h1 : decide ((s.size : Int) > 3000) = true := decide_eq_true (by omega)
    have h2 : ((s.size : Int) == 20001) = false := by rw [beq_eq_false_iff_ne]; omega
    have h3 : (s.size : Int) > 3000 := by omega
    go_wp2_with fail
    go_ret
    exact ⟨rfl, B2.out⟩
  have hsz : s.size ≤ 1000000 := by omega
  by_cases hs3 : s.size ≤ 3000
  · have h1 : decide ((s.size : Int) > 3000) = false := decide_eq_false (by omega)
    have h3 : ¬ (s.size : Int) > 3000 := by omega
    clear hs hs3
    go_upto_region 4 with fail
    clear h1 h3
    go_wp2_with fail
    refine (heldNew_any most w2).mono ?_
    rintro e w3 ⟨b, rfl, HI3, b3⟩
    have HI3 := Lib.hid HI3
    go_wp2_with fail
    refine (refNewHeld_any w most w3).mono ?_
    rintro e w4 ⟨m, rfl, HR4, b4⟩
    have HI4 := Lib.hid (HI3.out.below b4)
    have HR4 := Lib.hid HR4
    have B4 := Lib.hid (B2.out.trans ((b3.trans (b4.mono b3.size)).mono B2.out.size))
    obtain ⟨B, hB⟩ : ∃ B, w2.heap.size = B := ⟨_, rfl⟩
    obtain ⟨D, hD⟩ : ∃ D, w3.heap.size = D := ⟨_, rfl⟩
    have hBD : B ≤ D := by rw [← hB, ← hD]; exact b3.size
    have hDw : D ≤ w4.heap.size := by rw [← hD]; exact b4.size
    have hwB : w.heap.size ≤ B := by rw [← hB]; exact B2.out.size
    rw [hD] at HR4
    rw [hB] at HI4
    clear hB hD HI3 b3 b4
    have C := Lib.hid (hold3_any (E := E) (W0 := w) B b D m (.slice ao L.length ac) L (newH most) w4 HI4.out HR4.out HA.out B4.out hwB hBD hDw HL.out.1 HL.out.2 HE.out.1)
    clear HI4 HR4
    go_wp2_with fail
    refine C.out.mono ?_
    clear C
    rintro e w5 ⟨rfl, hd, HI5, HR5, b5⟩
    have B5 := Lib.hid (B4.out.trans (b5.mono hwB))
    have hD5 : D ≤ w5.heap.size := Nat.le_trans hDw b5.size
    have HOK := Lib.hid HI5.out.1
    clear b5
    have C := Lib.hid (ownWants_any (.slice bo l.length bc) l w5 (by omega) (HB.out.ext B5.out))
    go_wp2_with fail
    refine C.out.mono ?_
    clear C
    rintro e w6 ⟨⟨ov, rfl, HO⟩, b6⟩
    have B6 := Lib.hid (B5.out.trans (b6.mono B5.out.size))
    have C := Lib.hid (lockBundle_any (E := E) B b hd ov l w6 (HI5.out.below b6) HO.out.arg.1 (by omega) HSW.out (HE.out.ext B6.out).1)
    go_wp2_with fail
    refine C.out.mono ?_
    clear C
    rintro e w7 ⟨⟨t, ev, rfl, HT, HER⟩, b7⟩
    have b57 := b6.trans (b7.mono b6.size)
    have B7 := Lib.hid (B6.out.trans (b7.mono B6.out.size))
    have C := Lib.hid (refBundle_any (W0 := w) D m hd (.slice bo l.length bc) l w7 (HR5.out.below b57) HOK.out B7.out (HB.out.ext B7.out).1 (by omega) HSW.out (fun v l w h1 h2 h3 => refSort_any v l w h1 h2 h3))
    obtain ⟨r, hr⟩ : ∃ r, bundleLk hd l = r := ⟨_, rfl⟩
    rw [hr] at HT HER C
    clear hr b6 b7 HO B6
    go_wp2_with fail
    refine C.out.mono ?_
    clear C
    rintro e w8 ⟨⟨t2, rfl, HT2⟩, b8⟩
    obtain rfl : t = t2 := bl_inj (HT.out.trans HT2.out.symm)
    have HER8 := Lib.hid (HER.out.ext b8)
    have b58 := b57.trans (b8.mono b57.size)
    have B8 := Lib.hid (B7.out.trans (b8.mono B7.out.size))
    have HI8 := Lib.hid (HI5.out.below b58)
    have HR8 := Lib.hid (HR5.out.below b58)
    have hD8 : D ≤ w8.heap.size := Nat.le_trans hD5 b58.size
    obtain ⟨w9, hw9⟩ : ∃ w9, w8.alloc (.cells #[.int .i64 r.1.code, .int .i64 (r.1.at?.getD (-1))] 59) = w9 := ⟨_, rfl⟩
    obtain ⟨q, hq⟩ : ∃ q, w8.heap.size = q := ⟨_, rfl⟩
    have hal : Below w8.heap.size w8 w9 := by rw [← hw9]; exact (Below.refl _ _).alloc (Nat.le_refl _) _
    have FX := Lib.hid (show FaultAt w9 q r.1.code (r.1.at?.getD (-1)) by rw [← hw9, ← hq]; exact FaultAt.new w8 _ _)
    have B9 := Lib.hid (B8.out.trans (hal.mono B8.out.size))
    have C := Lib.hid (faulted3_any (E := E) (HE.out.ext B9.out).1.1.1 (HER8.out.ext hal) (r.1.code : Int) (r.1.at?.getD (-1)))
    rw [show faultB3 r.1 (r.1.code : Int) (r.1.at?.getD (-1)) = true by simp [faultB3]] at C
    have HI9 := Lib.hid (HI8.out.below hal)
    have HR9 := Lib.hid (HR8.out.below hal)
    have hD9 : D ≤ w9.heap.size := Nat.le_trans hD8 hal.size
    have hwq : w.heap.size ≤ q := by rw [← hq]; exact B8.out.size
    unfold erA at ⊢
    have HW9 := Lib.hid hw9
    have HQ := Lib.hid hq
    obtain ⟨x0, x1, _, _⟩ := FX.out.cells
    obtain ⟨fc, hfc⟩ : ∃ fc : Int, (r.1.code : Int) = fc := ⟨_, rfl⟩
    obtain ⟨fa, hfa2⟩ : ∃ fa : Int, r.1.at?.getD (-1) = fa := ⟨_, rfl⟩
    rw [hfc] at x0 FX
    rw [hfa2] at x1 FX
    rw [hfc, hfa2] at C HW9 ⊢
    clear hw9 hq hal hfc hfa2 HER HER8 HT HT2 HI8 HR8 HI5 HR5 b8 b57 b58 B7 B8
    go_wp2_with fail
    rw [HW9.out, HQ.out]
    go_wp2_with fail
    refine C.out.mono ?_
    clear C
    rintro e w10 ⟨rfl, b10⟩
    have FX10 := Lib.hid (FX.out.ext b10)
    have HI10 := Lib.hid (HI9.out.below b10)
    have HR10 := Lib.hid (HR9.out.below b10)
    have B10 := Lib.hid (B9.out.trans (b10.mono B9.out.size))
    have hD10 : D ≤ w10.heap.size := Nat.le_trans hD9 b10.size
    clear FX HI9 HR9 x0 x1 b10
    have C := Lib.hid (refLoad_any (W0 := w) D m hd (.slice bo l.length bc) l s w10 HR10.out HOK.out B10.out (Nat.le_trans hwB hBD) hD10 (HB.out.ext B10.out).1 (by omega) HSW.out hsz)
    obtain ⟨r2, hr2⟩ : ∃ r, loadLk hd l (bl s) = r := ⟨_, rfl⟩
    have HR2 := Lib.hid hr2
    rw [hr2] at C
    go_wp2_with fail
    refine C.out.mono ?_
    clear C hr2
    rintro e w11 ⟨rfl, HR11, K11⟩
    have HI11 := Lib.hid (HI10.out.keeps K11.out rh_map rh_held rh_int rh_file)
    have FX11 := Lib.hid (FX10.out.keeps K11.out (fun cs => notRH cs (0, 0)))
    have B11 := Lib.hid (B10.out.trans (K11.out.below.mono (Nat.le_trans hwB hBD)))
    have hD11 : D ≤ w11.heap.size := Nat.le_trans hD10 K11.out.below.size
    clear HI10 HR10 K11 FX10
    unfold erA
    obtain ⟨fc2, hfc2⟩ : ∃ fc : Int, (r2.1.code : Int) = fc := ⟨_, rfl⟩
    obtain ⟨fa2, hfa2⟩ : ∃ fa : Int, r2.1.at?.getD (-1) = fa := ⟨_, rfl⟩
    rw [hfc2, hfa2]
    have HFC := Lib.hid hfc2
    have HFA := Lib.hid hfa2
    obtain ⟨x0, x1, x2, x3⟩ := FX11.out.cells
    obtain ⟨w12, hw12⟩ : ∃ w12, (w11.setCell ⟨q, 0, none⟩ (.int .i64 fc2)).setCell ⟨q, 1, none⟩ (.int .i64 fa2) = w12 := ⟨_, rfl⟩
    have FX12 := Lib.hid (FX11.out.store fc2 fa2)
    have HI12 := Lib.hid (HI11.out.faulted FX11.out (.int .i64 fc2) (.int .i64 fa2))
    have HR12 := Lib.hid (HR11.out.faulted FX11.out (.int .i64 fc2) (.int .i64 fa2))
    have B12 := Lib.hid (store_below B11.out hwq (.int .i64 fc2) (.int .i64 fa2))
    have hD12 : D ≤ ((w11.setCell ⟨q, 0, none⟩ (.int .i64 fc2)).setCell ⟨q, 1, none⟩ (.int .i64 fa2)).heap.size := Nat.le_trans hD11 (fault_end FX11.out fc2 fa2 0 (Nat.zero_le _)).2.2.size
    rw [hw12] at FX12 HI12 HR12 B12 hD12
    have HW12 := Lib.hid hw12
    clear hfc2 hfa2 hw12 HI11 HR11 B11 hD11 hD10 hD9 hD8 hD5 FX11
    go_upto_region 16 with fail
    rw [HW12.out]
    clear x0 x1 x2 x3
    obtain ⟨x0, x1, _, _⟩ := FX12.out.cells
    have COW : Hid (∀ W, Below w12.heap.size w12 W → Calls Tryz.prog 14 #[.slice bo l.length bc] W fun e w' => (∃ ov, e = .returned ov ∧ Hid (WOwn w' w12.heap.size ov l)) ∧ Below w12.heap.size w12 w') := fun W hW => by
      refine (ownWants_any (.slice bo l.length bc) l W (by omega) (HB.out.ext (B12.out.trans (hW.mono B12.out.size)))).mono ?_
      rintro e w' ⟨⟨ov, rfl, h⟩, hb⟩
      exact ⟨⟨ov, rfl, h.out.low hW.size⟩, hW.trans (hb.mono hW.size)⟩
    have CLD : Hid (∀ (ov : Value) W, WOwn W w12.heap.size ov l → Below w12.heap.size w12 W → Calls Tryz.prog 22 #[.pointer (some ⟨b, 0, none⟩), ov, .string s] W fun e w' => (∃ ev, e = .returned ev ∧ Hid (IsErr E w' ev r2.1)) ∧ Hid (HeldIs w' B b r2.2) ∧ Hid (Keeps HeldRow B w12 w')) := fun ov W ho hW => by
      have := lockLoad_any (E := E) (W0 := w) B b hd ov l s W (HI12.out.below hW) ho.arg.1 (by omega) HSW.out hsz HE.out (B12.out.trans (hW.mono B12.out.size)) hwB (Nat.le_trans hBD (Nat.le_trans hD12 hW.size))
      rw [HR2.out] at this
      refine this.mono ?_
      rintro e w' ⟨⟨ev, rfl, h1⟩, h2, h3⟩
      exact ⟨⟨ev, rfl, h1⟩, h2, (Keeps.of hW (Nat.le_trans hBD hD12)).trans h3.out.toKeeps⟩
    have HFB : Hid (faultB3 r2.1 fc2 fa2 = true) := by show _ = _; rw [← HFC.out, ← HFA.out]; simp [faultB3]
    have BD0 := Lib.hid (below_drewN w12.heap.size w12 1)
    go_region_held3 (fun W : World => W.cell? ⟨q, 0, none⟩ = some (.int .i64 fc2) ∧ W.cell? ⟨q, 1, none⟩ = some (.int .i64 fa2)) (first | exact ⟨u0, u1⟩ | exact ⟨t0, t1⟩ | exact ⟨s0, s1⟩ | exact ⟨r0, r1⟩ | exact ⟨z0, z1⟩ | exact ⟨p0, p1⟩ | exact ⟨x0, x1⟩)
      (first
        | (go_at_call 14; refine (COW.out _ BD0.out).mono ?_; rintro e w13 ⟨⟨ov2, rfl, HO2⟩, b13⟩; obtain ⟨p0, p1, _, _⟩ := (FX12.out.ext b13).cells)
        | (go_at_call 22; refine (CLD.out _ _ HO2.out b13).mono ?_; rintro e w14 ⟨⟨ev2, rfl, HE14⟩, HI14, K14⟩; have FX14 := FX12.out.keeps K14.out heldRow_fault; obtain ⟨z0, z1, _, _⟩ := FX14.cells; have B14 := B12.out.trans (K14.out.below.mono hwB))
        | (go_at_call 28; refine (faulted3_any (HE.out.ext B14).1.1.1 HE14.out fc2 fa2).mono ?_; rintro e w15 ⟨rfl, b15⟩; rw [HFB.out]; obtain ⟨r0, r1, _, _⟩ := (FX14.ext b15).cells)
        | (go_at_call 25; refine (heldSums_any B b r2.2 w15 (HI14.out.below b15)).mono ?_; rintro e w16 ⟨⟨sv1, rfl, HS1⟩, b16⟩; have b46 := b15.trans (b16.mono b15.size); obtain ⟨s0, s1, _, _⟩ := (FX14.ext b46).cells)
        | (go_at_call 41; refine (refHSums_any w D m r2.2 w16 ((HR12.out.keeps K14.out hr_held hr_tree heldRow_files).below b46) (by have h1 := HI14.out.1.few; have h2 := HI14.out.1.len; omega)).mono ?_; rintro e w17 ⟨⟨sv2, rfl, HS2⟩, b17⟩; have b47 := b46.trans (b17.mono b46.size); obtain ⟨t0, t1, _, _⟩ := (FX14.ext b47).cells)
        | (go_at_call 40; refine (sameInts_any (IOwn.ext HS1.out b17).row HS2.out.row).mono ?_; rintro e w18 ⟨rfl, b18⟩; rw [decide_eq_true (rfl : r2.2.sums = r2.2.sums)]; have b48 := b47.trans (b18.mono b47.size); obtain ⟨u0, u1, _, _⟩ := (FX14.ext b48).cells))
    have B18 := Lib.hid (B14.trans (b48.mono B14.size))
    clear u0 u1 t0 t1 s0 s1 r0 r1 z0 z1 p0 p1 x0 x1 b48 b47 b46 b15 b16 b17 b18 HS1 HS2
    go_wp2_with fail
    refine (lockBundle_nil (E := E) (.slice bo l.length bc) w18 (HE.out.ext B18.out).1.1.1).mono ?_
    rintro e w19 ⟨rfl, b19⟩
    have B19 := Lib.hid (B18.out.trans (b19.mono B18.out.size))
    have C := Lib.hid (codedThree_any (E := E) (HE.out.ext B19.out).1.1.1 (IsErr.base E w19 2 (by decide)) 3)
    rw [show codedB3 ⟨2 + 1, none⟩ 3 = true by decide] at C
    clear b19
    go_wp2_with fail
    refine C.out.mono ?_
    clear C
    rintro e w20 ⟨rfl, b20⟩
    have B20 := Lib.hid (B19.out.trans (b20.mono B19.out.size))
    clear b20
    go_wp2_with fail
    refine (lockLoad_nil (E := E) (.slice bo l.length bc) s w20 (HE.out.ext B20.out).1.1.1).mono ?_
    rintro e w21 ⟨rfl, b21⟩
    have B21 := Lib.hid (B20.out.trans (b21.mono B20.out.size))
    have C := Lib.hid (codedThree_any (E := E) (HE.out.ext B21.out).1.1.1 (IsErr.base E w21 2 (by decide)) 3)
    rw [show codedB3 ⟨2 + 1, none⟩ 3 = true by decide] at C
    clear b21
    go_wp2_with fail
    refine C.out.mono ?_
    clear C
    rintro e w22 ⟨rfl, b22⟩
    have B22 := Lib.hid (B21.out.trans (b22.mono B21.out.size))
    clear b22
    go_wp2_with fail
    go_ret
    exact ⟨rfl, B22.out⟩
  · have h1 : decide ((s.size : Int) > 3000) = true := decide_eq_true (by omega)
    have h2 : ((s.size : Int) == 20001) = true := by rw [beq_iff_eq]; omega
    have h3 : (s.size : Int) > 3000 := by omega
    clear hs hs3
    go_upto_region 4 with fail
    clear h1 h2 h3
    go_wp2_with fail
    refine (heldNew_any most w2).mono ?_
    rintro e w3 ⟨b, rfl, HI3, b3⟩
    have HI3 := Lib.hid HI3
    go_wp2_with fail
    refine (refNewHeld_any w most w3).mono ?_
    rintro e w4 ⟨m, rfl, HR4, b4⟩
    have HI4 := Lib.hid (HI3.out.below b4)
    have HR4 := Lib.hid HR4
    have B4 := Lib.hid (B2.out.trans ((b3.trans (b4.mono b3.size)).mono B2.out.size))
    obtain ⟨B, hB⟩ : ∃ B, w2.heap.size = B := ⟨_, rfl⟩
    obtain ⟨D, hD⟩ : ∃ D, w3.heap.size = D := ⟨_, rfl⟩
    have hBD : B ≤ D := by rw [← hB, ← hD]; exact b3.size
    have hDw : D ≤ w4.heap.size := by rw [← hD]; exact b4.size
    have hwB : w.heap.size ≤ B := by rw [← hB]; exact B2.out.size
    rw [hD] at HR4
    rw [hB] at HI4
    clear hB hD HI3 b3 b4
    have C := Lib.hid (hold3_any (E := E) (W0 := w) B b D m (.slice ao L.length ac) L (newH most) w4 HI4.out HR4.out HA.out B4.out hwB hBD hDw HL.out.1 HL.out.2 HE.out.1)
    clear HI4 HR4
    go_wp2_with fail
    refine C.out.mono ?_
    clear C
    rintro e w5 ⟨rfl, hd, HI5, HR5, b5⟩
    have B5 := Lib.hid (B4.out.trans (b5.mono hwB))
    have hD5 : D ≤ w5.heap.size := Nat.le_trans hDw b5.size
    have HOK := Lib.hid HI5.out.1
    clear b5
    have C := Lib.hid (ownWants_any (.slice bo l.length bc) l w5 (by omega) (HB.out.ext B5.out))
    go_wp2_with fail
    refine C.out.mono ?_
    clear C
    rintro e w6 ⟨⟨ov, rfl, HO⟩, b6⟩
    have B6 := Lib.hid (B5.out.trans (b6.mono B5.out.size))
    have C := Lib.hid (lockBundle_any (E := E) B b hd ov l w6 (HI5.out.below b6) HO.out.arg.1 (by omega) HSW.out (HE.out.ext B6.out).1)
    go_wp2_with fail
    refine C.out.mono ?_
    clear C
    rintro e w7 ⟨⟨t, ev, rfl, HT, HER⟩, b7⟩
    have b57 := b6.trans (b7.mono b6.size)
    have B7 := Lib.hid (B6.out.trans (b7.mono B6.out.size))
    have C := Lib.hid (refBundle_any (W0 := w) D m hd (.slice bo l.length bc) l w7 (HR5.out.below b57) HOK.out B7.out (HB.out.ext B7.out).1 (by omega) HSW.out (fun v l w h1 h2 h3 => refSort_any v l w h1 h2 h3))
    obtain ⟨r, hr⟩ : ∃ r, bundleLk hd l = r := ⟨_, rfl⟩
    rw [hr] at HT HER C
    clear hr b6 b7 HO B6
    go_wp2_with fail
    refine C.out.mono ?_
    clear C
    rintro e w8 ⟨⟨t2, rfl, HT2⟩, b8⟩
    obtain rfl : t = t2 := bl_inj (HT.out.trans HT2.out.symm)
    have HER8 := Lib.hid (HER.out.ext b8)
    have b58 := b57.trans (b8.mono b57.size)
    have B8 := Lib.hid (B7.out.trans (b8.mono B7.out.size))
    have HI8 := Lib.hid (HI5.out.below b58)
    have HR8 := Lib.hid (HR5.out.below b58)
    have hD8 : D ≤ w8.heap.size := Nat.le_trans hD5 b58.size
    obtain ⟨w9, hw9⟩ : ∃ w9, w8.alloc (.cells #[.int .i64 r.1.code, .int .i64 (r.1.at?.getD (-1))] 59) = w9 := ⟨_, rfl⟩
    obtain ⟨q, hq⟩ : ∃ q, w8.heap.size = q := ⟨_, rfl⟩
    have hal : Below w8.heap.size w8 w9 := by rw [← hw9]; exact (Below.refl _ _).alloc (Nat.le_refl _) _
    have FX := Lib.hid (show FaultAt w9 q r.1.code (r.1.at?.getD (-1)) by rw [← hw9, ← hq]; exact FaultAt.new w8 _ _)
    have B9 := Lib.hid (B8.out.trans (hal.mono B8.out.size))
    have C := Lib.hid (faulted3_any (E := E) (HE.out.ext B9.out).1.1.1 (HER8.out.ext hal) (r.1.code : Int) (r.1.at?.getD (-1)))
    rw [show faultB3 r.1 (r.1.code : Int) (r.1.at?.getD (-1)) = true by simp [faultB3]] at C
    have HI9 := Lib.hid (HI8.out.below hal)
    have HR9 := Lib.hid (HR8.out.below hal)
    have hD9 : D ≤ w9.heap.size := Nat.le_trans hD8 hal.size
    have hwq : w.heap.size ≤ q := by rw [← hq]; exact B8.out.size
    unfold erA at ⊢
    have HW9 := Lib.hid hw9
    have HQ := Lib.hid hq
    obtain ⟨x0, x1, _, _⟩ := FX.out.cells
    obtain ⟨fc, hfc⟩ : ∃ fc : Int, (r.1.code : Int) = fc := ⟨_, rfl⟩
    obtain ⟨fa, hfa2⟩ : ∃ fa : Int, r.1.at?.getD (-1) = fa := ⟨_, rfl⟩
    rw [hfc] at x0 FX
    rw [hfa2] at x1 FX
    rw [hfc, hfa2] at C HW9 ⊢
    clear hw9 hq hal hfc hfa2 HER HER8 HT HT2 HI8 HR8 HI5 HR5 b8 b57 b58 B7 B8
    go_wp2_with fail
    rw [HW9.out, HQ.out]
    go_wp2_with fail
    refine C.out.mono ?_
    clear C
    rintro e w10 ⟨rfl, b10⟩
    have FX10 := Lib.hid (FX.out.ext b10)
    have HI10 := Lib.hid (HI9.out.below b10)
    have HR10 := Lib.hid (HR9.out.below b10)
    have B10 := Lib.hid (B9.out.trans (b10.mono B9.out.size))
    have hD10 : D ≤ w10.heap.size := Nat.le_trans hD9 b10.size
    clear FX HI9 HR9 x0 x1 b10
    have C := Lib.hid (refLoad_any (W0 := w) D m hd (.slice bo l.length bc) l s w10 HR10.out HOK.out B10.out (Nat.le_trans hwB hBD) hD10 (HB.out.ext B10.out).1 (by omega) HSW.out hsz)
    obtain ⟨r2, hr2⟩ : ∃ r, loadLk hd l (bl s) = r := ⟨_, rfl⟩
    have HR2 := Lib.hid hr2
    rw [hr2] at C
    go_wp2_with fail
    refine C.out.mono ?_
    clear C hr2
    rintro e w11 ⟨rfl, HR11, K11⟩
    have HI11 := Lib.hid (HI10.out.keeps K11.out rh_map rh_held rh_int rh_file)
    have FX11 := Lib.hid (FX10.out.keeps K11.out (fun cs => notRH cs (0, 0)))
    have B11 := Lib.hid (B10.out.trans (K11.out.below.mono (Nat.le_trans hwB hBD)))
    have hD11 : D ≤ w11.heap.size := Nat.le_trans hD10 K11.out.below.size
    clear HI10 HR10 K11 FX10
    unfold erA
    obtain ⟨fc2, hfc2⟩ : ∃ fc : Int, (r2.1.code : Int) = fc := ⟨_, rfl⟩
    obtain ⟨fa2, hfa2⟩ : ∃ fa : Int, r2.1.at?.getD (-1) = fa := ⟨_, rfl⟩
    rw [hfc2, hfa2]
    have HFC := Lib.hid hfc2
    have HFA := Lib.hid hfa2
    obtain ⟨x0, x1, x2, x3⟩ := FX11.out.cells
    obtain ⟨w12, hw12⟩ : ∃ w12, (w11.setCell ⟨q, 0, none⟩ (.int .i64 fc2)).setCell ⟨q, 1, none⟩ (.int .i64 fa2) = w12 := ⟨_, rfl⟩
    have FX12 := Lib.hid (FX11.out.store fc2 fa2)
    have HI12 := Lib.hid (HI11.out.faulted FX11.out (.int .i64 fc2) (.int .i64 fa2))
    have HR12 := Lib.hid (HR11.out.faulted FX11.out (.int .i64 fc2) (.int .i64 fa2))
    have B12 := Lib.hid (store_below B11.out hwq (.int .i64 fc2) (.int .i64 fa2))
    have hD12 : D ≤ ((w11.setCell ⟨q, 0, none⟩ (.int .i64 fc2)).setCell ⟨q, 1, none⟩ (.int .i64 fa2)).heap.size := Nat.le_trans hD11 (fault_end FX11.out fc2 fa2 0 (Nat.zero_le _)).2.2.size
    rw [hw12] at FX12 HI12 HR12 B12 hD12
    have HW12 := Lib.hid hw12
    clear hfc2 hfa2 hw12 HI11 HR11 B11 hD11 hD10 hD9 hD8 hD5 FX11
    go_upto_region 16 with fail
    rw [HW12.out]
    clear x0 x1 x2 x3
    obtain ⟨x0, x1, _, _⟩ := FX12.out.cells
    have COW : Hid (∀ W, Below w12.heap.size w12 W → Calls Tryz.prog 14 #[.slice bo l.length bc] W fun e w' => (∃ ov, e = .returned ov ∧ Hid (WOwn w' w12.heap.size ov l)) ∧ Below w12.heap.size w12 w') := fun W hW => by
      refine (ownWants_any (.slice bo l.length bc) l W (by omega) (HB.out.ext (B12.out.trans (hW.mono B12.out.size)))).mono ?_
      rintro e w' ⟨⟨ov, rfl, h⟩, hb⟩
      exact ⟨⟨ov, rfl, h.out.low hW.size⟩, hW.trans (hb.mono hW.size)⟩
    have CLD : Hid (∀ (ov : Value) W, WOwn W w12.heap.size ov l → Below w12.heap.size w12 W → Calls Tryz.prog 22 #[.pointer (some ⟨b, 0, none⟩), ov, .string s] W fun e w' => (∃ ev, e = .returned ev ∧ Hid (IsErr E w' ev r2.1)) ∧ Hid (HeldIs w' B b r2.2) ∧ Hid (Keeps HeldRow B w12 w')) := fun ov W ho hW => by
      have := lockLoad_any (E := E) (W0 := w) B b hd ov l s W (HI12.out.below hW) ho.arg.1 (by omega) HSW.out hsz HE.out (B12.out.trans (hW.mono B12.out.size)) hwB (Nat.le_trans hBD (Nat.le_trans hD12 hW.size))
      rw [HR2.out] at this
      refine this.mono ?_
      rintro e w' ⟨⟨ev, rfl, h1⟩, h2, h3⟩
      exact ⟨⟨ev, rfl, h1⟩, h2, (Keeps.of hW (Nat.le_trans hBD hD12)).trans h3.out.toKeeps⟩
    have HFB : Hid (faultB3 r2.1 fc2 fa2 = true) := by show _ = _; rw [← HFC.out, ← HFA.out]; simp [faultB3]
    have BD0 := Lib.hid (below_drewN w12.heap.size w12 1)
    go_region_held3 (fun W : World => W.cell? ⟨q, 0, none⟩ = some (.int .i64 fc2) ∧ W.cell? ⟨q, 1, none⟩ = some (.int .i64 fa2)) (first | exact ⟨u0, u1⟩ | exact ⟨t0, t1⟩ | exact ⟨s0, s1⟩ | exact ⟨r0, r1⟩ | exact ⟨z0, z1⟩ | exact ⟨p0, p1⟩ | exact ⟨x0, x1⟩)
      (first
        | (go_at_call 14; refine (COW.out _ BD0.out).mono ?_; rintro e w13 ⟨⟨ov2, rfl, HO2⟩, b13⟩; obtain ⟨p0, p1, _, _⟩ := (FX12.out.ext b13).cells)
        | (go_at_call 22; refine (CLD.out _ _ HO2.out b13).mono ?_; rintro e w14 ⟨⟨ev2, rfl, HE14⟩, HI14, K14⟩; have FX14 := FX12.out.keeps K14.out heldRow_fault; obtain ⟨z0, z1, _, _⟩ := FX14.cells; have B14 := B12.out.trans (K14.out.below.mono hwB))
        | (go_at_call 28; refine (faulted3_any (HE.out.ext B14).1.1.1 HE14.out fc2 fa2).mono ?_; rintro e w15 ⟨rfl, b15⟩; rw [HFB.out]; obtain ⟨r0, r1, _, _⟩ := (FX14.ext b15).cells)
        | (go_at_call 25; refine (heldSums_any B b r2.2 w15 (HI14.out.below b15)).mono ?_; rintro e w16 ⟨⟨sv1, rfl, HS1⟩, b16⟩; have b46 := b15.trans (b16.mono b15.size); obtain ⟨s0, s1, _, _⟩ := (FX14.ext b46).cells)
        | (go_at_call 41; refine (refHSums_any w D m r2.2 w16 ((HR12.out.keeps K14.out hr_held hr_tree heldRow_files).below b46) (by have h1 := HI14.out.1.few; have h2 := HI14.out.1.len; omega)).mono ?_; rintro e w17 ⟨⟨sv2, rfl, HS2⟩, b17⟩; have b47 := b46.trans (b17.mono b46.size); obtain ⟨t0, t1, _, _⟩ := (FX14.ext b47).cells)
        | (go_at_call 40; refine (sameInts_any (IOwn.ext HS1.out b17).row HS2.out.row).mono ?_; rintro e w18 ⟨rfl, b18⟩; rw [decide_eq_true (rfl : r2.2.sums = r2.2.sums)]; have b48 := b47.trans (b18.mono b47.size); obtain ⟨u0, u1, _, _⟩ := (FX14.ext b48).cells))
    have B18 := Lib.hid (B14.trans (b48.mono B14.size))
    clear u0 u1 t0 t1 s0 s1 r0 r1 z0 z1 p0 p1 x0 x1 b48 b47 b46 b15 b16 b17 b18 HS1 HS2
    go_wp2_with fail
    refine (lockBundle_nil (E := E) (.slice bo l.length bc) w18 (HE.out.ext B18.out).1.1.1).mono ?_
    rintro e w19 ⟨rfl, b19⟩
    have B19 := Lib.hid (B18.out.trans (b19.mono B18.out.size))
    have C := Lib.hid (codedThree_any (E := E) (HE.out.ext B19.out).1.1.1 (IsErr.base E w19 2 (by decide)) 3)
    rw [show codedB3 ⟨2 + 1, none⟩ 3 = true by decide] at C
    clear b19
    go_wp2_with fail
    refine C.out.mono ?_
    clear C
    rintro e w20 ⟨rfl, b20⟩
    have B20 := Lib.hid (B19.out.trans (b20.mono B19.out.size))
    clear b20
    go_wp2_with fail
    refine (lockLoad_nil (E := E) (.slice bo l.length bc) s w20 (HE.out.ext B20.out).1.1.1).mono ?_
    rintro e w21 ⟨rfl, b21⟩
    have B21 := Lib.hid (B20.out.trans (b21.mono B20.out.size))
    have C := Lib.hid (codedThree_any (E := E) (HE.out.ext B21.out).1.1.1 (IsErr.base E w21 2 (by decide)) 3)
    rw [show codedB3 ⟨2 + 1, none⟩ 3 = true by decide] at C
    clear b21
    go_wp2_with fail
    refine C.out.mono ?_
    clear C
    rintro e w22 ⟨rfl, b22⟩
    have B22 := Lib.hid (B21.out.trans (b22.mono B21.out.size))
    clear b22
    go_wp2_with fail
    go_ret
    exact ⟨rfl, B22.out⟩
end Go.Proofs.YtgchgdkpipanjaaGreatDoor
