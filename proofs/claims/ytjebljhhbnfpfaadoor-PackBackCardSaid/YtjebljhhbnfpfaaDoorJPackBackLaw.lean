/- chandlerylaw1.PackBack: the walk. -/
import Derived.Test.YtjebljhhbnfpfaaDoorJPacked
import Derived.Test.YtjebljhhbnfpfaaDoorJFiles
import Derived.Test.YtjebljhhbnfpfaaDoorJCleanOf
namespace Go.Proofs.YtjebljhhbnfpfaaDoor
open Go Go.RowKit

/-- A right path is clean. -/
theorem clean_right {s : List UInt8} (h : partsE s = 0) : cleanE s = 0 ∧ cleanT s = s := by
  obtain ⟨h1, h2⟩ := partsE_ok h
  have h3 : s.head? ≠ some 47 := by
    have := head_of_parts h1 [] (cutL_ne 47 s)
    rwa [List.append_nil, cutL_join] at this
  have h4 := cleanW_keep (cutL 47 s) [] h1
  rw [List.nil_append, if_neg (by omega)] at h4
  have h5 : cleanE s = 0 := by unfold cleanE; rw [if_neg h3, h4]
  exact ⟨h5, by unfold cleanT; rw [h5, h4]; simp only [if_true]; exact cutL_join 47 s⟩
theorem readT_small {s : ByteArray} (hs : s.size ≤ 20000) (h : (readEr (bl s)).code = 0) : (readT (bl s)).length ≤ 10000 ∧ ∀ f ∈ readT (bl s), SmallF f ∧ partsE (bl f.path) = 0 := by
  have e := read_back h
  obtain ⟨h1, h2⟩ := packL_five (readT (bl s))
  rw [e.2.1, bl_length] at h1 h2
  refine ⟨by omega, fun f hf => ?_⟩
  have h3 := h2 f hf
  exact ⟨⟨by omega, by omega⟩, ((treeEr_zero e.1).2.2.2 f hf).1⟩

set_option maxHeartbeats 4000000 in
set_option maxRecDepth 100000 in
theorem packBack_walk {E : Nat → Addr} {w : World} (hR : REnv E w) (v : Value) (l : List FileB) (hv : FArg w v l) (s : ByteArray) (cut : Int) :
    Calls Tryd.prog 3 #[v, .string s, .int .i64 cut] w fun e w' => e = .returned (.bool true) ∧ Below w.heap.size w w' := by
  have HR := Lib.hid hR
  have HCE : Hid (CEnv E w) := ⟨hR.1.1.2, hR.1.1.1.eShape, hR.1.1.1.eOut⟩
  have HV := Lib.hid hv
  have C := Lib.hid (packed_any w hR)
  clear hR
  obtain ⟨⟨ao, cap, rfl, h1, h2, H3⟩, _⟩ := hv
  have HM := Lib.hid H3
  clear H3
  go_enter Tryd.func3, Tryd.ntmps3
  go_wp2_with fail
  refine C.out.mono ?_
  clear C
  rintro e w1 ⟨rfl, b1⟩
  have C := Lib.hid (longFiles_any _ l w1 (HV.out.ext b1).1)
  go_wp2_with fail
  refine C.out.mono ?_
  clear C
  rintro e w2 ⟨⟨n, rfl, hn, HN⟩, rfl⟩
  rcases hn with rfl | rfl
  · obtain ⟨hl, hs⟩ := HN.out rfl
    have HS : Hid (∀ f ∈ l, SmallF f) := fun f hf => by have := hs f hf; exact ⟨by omega, by omega⟩
    clear hs HN
    by_cases hss : s.size ≤ 2000
    · have hd : decide ((2000 : Int) < (s.size : Int)) = false := decide_eq_false (by omega)
      have C := Lib.hid (packRead_any s w1 (by omega) (HR.out.ext b1))
      go_wp2_with fail
      refine C.out.mono ?_
      clear C
      rintro e w2 ⟨⟨rv, ev, rfl, HRV, HER⟩, hb2⟩
      have b2 := b1.trans (hb2.mono b1.size)
      by_cases hc : (readEr (bl s)).code = 0
      · obtain ⟨hrl, hrs⟩ := readT_small (by omega) hc
        have HRB := Lib.hid (read_back hc)
        obtain rfl : ev = .nilIface := by
          have h := HER.out
          rw [HRB.out.2.2] at h
          exact h.nil_inv
        have HRS := Lib.hid hrs
        clear hc hrs HER
        have HPB : Hid ((treeEr (readT (bl s))).code = 0 ∧ packL (readT (bl s)) = bl s) := ⟨HRB.out.1, HRB.out.2.1⟩
        clear HRB
        generalize readT (bl s) = rl at HRV hrl HRS HPB
        have C := Lib.hid (packMake_any rv rl w2 HRV.out.1 hrl (fun f hf => (HRS.out f hf).1) (HR.out.ext b2).1)
        obtain ⟨ro, rc, rfl, r1, r2, R3⟩ := HRV.out.1
        have HRM := Lib.hid R3
        clear R3
        go_wp2_with fail
        refine C.out.mono ?_
        clear C
        rintro e wb ⟨⟨t, ev, rfl, HT, HER⟩, hbb⟩
        have bb := b2.trans (hbb.mono b2.size)
        obtain rfl : ev = .nilIface := by
          have h := HER.out
          rw [(treeEr_zero HPB.out.1).1] at h
          exact h.nil_inv
        obtain rfl : t = s := bl_inj (by rw [HT.out]; unfold packT; rw [if_pos HPB.out.1]; exact HPB.out.2)
        have qs : (t.toList == t.toList) = true := beq_self_eq_true _
        clear HT HER HPB
        go_wp2_with fail
        go_loopw [12] (fun i wr => ∃ k : Nat, k ≤ rl.length ∧ i = .int .i64 k ∧ Below w2.heap.size w2 wr) (fun i _ => rl.length - (intOf i).toNat)
        case atStart => exact ⟨0, Nat.zero_le _, rfl, hbb⟩
        case round =>
          obtain ⟨k, hk, rfl, hbr⟩ := hrel
          have bt := b2.trans (hbr.mono b2.size)
          by_cases hlt : k < rl.length
          · obtain ⟨b, off, rfl, hbl, hcell⟩ := HRM.out k hlt
            obtain ⟨q0, _, _⟩ := hcell k hlt
            rw [← hbr.cell (p := ⟨b, off + k * 3, none⟩) hbl] at q0
            have hf := HRS.out rl[k] (List.getElem_mem hlt)
            generalize rl[k] = f at q0 hf
            have hfz := hf.1.1
            obtain ⟨z1, z2⟩ := clean_right hf.2
            have C := Lib.hid (clean_any f.path wr (by omega) (HCE.out.ext bt))
            have HZ := Lib.hid (And.intro z1 z2)
            clear hcell hf z1 z2
            go_wp2_with fail
            refine C.out.mono ?_
            clear C
            rintro e w9 ⟨⟨x, rfl, HX⟩, hb9⟩
            obtain rfl : x = f.path := bl_inj (by rw [HX.out, HZ.out.2])
            rw [HZ.out.1]
            have hbr9 := hbr.trans (hb9.mono hbr.size)
            have p0 := (hb9.cell (p := ⟨b, off + k * 3, none⟩) (Nat.lt_of_lt_of_le hbl hbr.size)).trans q0
            have qx : (f.path.toList == f.path.toList) = true := beq_self_eq_true _
            rw [show errV E 0 = .nilIface from rfl]
            clear HX HZ q0
            go_wp2_with fail
            go_roundw
            case rel => exact ⟨k + 1, by omega, by go_num, hbr9⟩
            case measure => simp [intOf]; omega
          · obtain rfl : k = rl.length := by omega
            have C := Lib.hid (ownFiles_any _ l wr (by omega) (HV.out.ext bt))
            go_wp2_with fail
            refine C.out.mono ?_
            clear C
            rintro e w3 ⟨⟨ov, rfl, HO⟩, hb3⟩
            have b3 := bt.trans (hb3.mono bt.size)
            have C := Lib.hid (packMake_any ov l w3 HO.out.arg.1 (by omega) HS.out (HR.out.ext b3).1)
            clear HO
            go_wp2_with fail
            refine C.out.mono ?_
            clear C
            rintro e w4 ⟨⟨t, ev, rfl, HT, HER⟩, hb4⟩
            have b4 := b3.trans (hb4.mono b3.size)
            by_cases hc : (treeEr l).code = 0
            · obtain rfl : ev = .nilIface := by
                have h := HER.out
                rw [(treeEr_zero hc).1] at h
                exact h.nil_inv
              have HTL : Hid (bl t = packL l) := by show _ = _; rw [HT.out]; unfold packT; rw [if_pos hc]
              have hts : t.size ≤ 20000 := by rw [← bl_length, HTL.out]; exact packL_fits hc
              have C := Lib.hid (packRead_any t w4 (by omega) (HR.out.ext b4))
              have HRD := Lib.hid (read_pack hc)
              have HCC := Lib.hid hc
              clear HT HER hc
              go_wp2_with fail
              refine C.out.mono ?_
              clear C
              rintro e w5 ⟨⟨xv, ev2, rfl, HX, HER⟩, hb5⟩
              have b5 := b4.trans (hb5.mono b4.size)
              obtain rfl : ev2 = .nilIface := by
                have h := HER.out
                rw [HTL.out, HRD.out.1] at h
                exact h.nil_inv
              have HX2 : Hid (FArg w5 xv l) := by
                have h := HX.out
                rw [HTL.out, HRD.out.2] at h
                exact h
              have C := Lib.hid (sameTrees_same HX2.out.1 (HV.out.ext b5).1 (by omega))
              clear HX HER HRD HX2
              go_wp2_with fail
              refine C.out.mono ?_
              clear C
              rintro e w6 ⟨rfl, hb6⟩
              have b6 := b5.trans (hb6.mono b5.size)
              by_cases h0 : cut < 0
              · have g0 : decide (cut < 0) = true := decide_eq_true h0
                clear h0
                go_wp2_with fail
                go_ret
                exact ⟨rfl, b6⟩
              · obtain ⟨k, rfl⟩ : ∃ k : Nat, cut = k := ⟨cut.toNat, by omega⟩
                have g0 : decide ((k : Int) < 0) = false := decide_eq_false (by omega)
                clear h0
                by_cases h1 : k < t.size
                · have g1 : decide ((t.size : Int) ≤ (k : Int)) = false := decide_eq_false (by omega)
                  have sl := slice_to t (k : Int) k (by omega) rfl
                  have HXT : Hid (bl (t.extract 0 k) = (packL l).take k) := by show _ = _; rw [bl_extract, List.drop_zero, Nat.sub_zero, HTL.out]
                  have hk : k < (packL l).length := by rw [← HTL.out, bl_length]; exact h1
                  have C := Lib.hid (packRead_any (t.extract 0 k) w6 (by simp; omega) (HR.out.ext b6))
                  have HRC := Lib.hid (fun h => read_cut HCC.out hk h)
                  generalize t.extract 0 k = u at sl HXT C
                  clear hk
                  go_wp2_with fail
                  refine C.out.mono ?_
                  clear C
                  rintro e w7 ⟨⟨yv, ev3, rfl, HY, HER⟩, hb7⟩
                  have b7 := b6.trans (hb7.mono b6.size)
                  rw [HXT.out] at HY HER
                  by_cases hc2 : (readEr ((packL l).take k)).code = 0
                  · obtain rfl : ev3 = .nilIface := by
                      have h := HER.out
                      rw [(read_back hc2).2.2] at h
                      exact h.nil_inv
                    obtain ⟨hlt, heq⟩ := HRC.out hc2
                    obtain ⟨m, hm⟩ : ∃ m, (readT ((packL l).take k)).length = m := ⟨_, rfl⟩
                    rw [hm] at hlt heq
                    rw [heq] at HY
                    have hml : (l.take m).length = m := by rw [List.length_take]; omega
                    obtain ⟨yo, yc, rfl, y1, y2, y3⟩ := HY.out.1
                    rw [hml] at y1
                    obtain ⟨b, off, rfl, hbl, hcell⟩ := HM.out 0 (by omega)
                    have C := Lib.hid (fun W (hW : Below w7.heap.size w7 W) => sameTrees_same (HY.out.1.ext hW) ((FRow.take hcell hbl (n := m) (by omega) (by omega) h2).ext (b7.trans (hW.mono b7.size))) (by omega))
                    rw [hml] at C ⊢
                    have hmi : (m : Int) < (l.length : Int) := by omega
                    clear HY HER HRC hc2 heq hm hml y3 hcell
                    go_wp2_with fail
                    refine (C.out _ (Below.refl _ _)).mono ?_
                    clear C
                    rintro e w8 ⟨rfl, hb8⟩
                    go_wp2_with fail
                    go_ret
                    exact ⟨rfl, b7.trans (hb8.mono b7.size)⟩
                  · have HYN : Hid (readT ((packL l).take k) = []) := by show _ = _; unfold readT; rw [if_neg hc2]
                    rw [HYN.out] at HY
                    obtain ⟨te, xq, rfl⟩ := HER.out.some_inv hc2
                    obtain ⟨yo, yc, rfl, _⟩ := HY.out.1
                    clear HY HER HRC hc2
                    go_wp2_with fail
                    go_ret
                    exact ⟨rfl, b7⟩
                · have g1 : decide ((t.size : Int) ≤ (k : Int)) = true := decide_eq_true (by omega)
                  go_wp2_with fail
                  go_ret
                  exact ⟨rfl, b6⟩
            · have HTL : Hid (bl t = []) := by show _ = _; rw [HT.out]; unfold packT; rw [if_neg hc]
              obtain rfl : t = ⟨#[]⟩ := bl_inj HTL.out
              obtain ⟨te, xq, rfl⟩ := HER.out.some_inv hc
              clear HT HER hc HTL
              go_wp2_with fail
              go_ret
              exact ⟨rfl, b4⟩
      · obtain ⟨te, xq, rfl⟩ := HER.out.some_inv hc
        clear hc HER HRV
        have C := Lib.hid (ownFiles_any _ l w2 (by omega) (HV.out.ext b2))
        go_wp2_with fail
        refine C.out.mono ?_
        clear C
        rintro e w3 ⟨⟨ov, rfl, HO⟩, hb3⟩
        have b3 := b2.trans (hb3.mono b2.size)
        have C := Lib.hid (packMake_any ov l w3 HO.out.arg.1 (by omega) HS.out (HR.out.ext b3).1)
        clear HO
        go_wp2_with fail
        refine C.out.mono ?_
        clear C
        rintro e w4 ⟨⟨t, ev, rfl, HT, HER⟩, hb4⟩
        have b4 := b3.trans (hb4.mono b3.size)
        by_cases hc : (treeEr l).code = 0
        · obtain rfl : ev = .nilIface := by
            have h := HER.out
            rw [(treeEr_zero hc).1] at h
            exact h.nil_inv
          have HTL : Hid (bl t = packL l) := by show _ = _; rw [HT.out]; unfold packT; rw [if_pos hc]
          have hts : t.size ≤ 20000 := by rw [← bl_length, HTL.out]; exact packL_fits hc
          have C := Lib.hid (packRead_any t w4 (by omega) (HR.out.ext b4))
          have HRD := Lib.hid (read_pack hc)
          have HCC := Lib.hid hc
          clear HT HER hc
          go_wp2_with fail
          refine C.out.mono ?_
          clear C
          rintro e w5 ⟨⟨xv, ev2, rfl, HX, HER⟩, hb5⟩
          have b5 := b4.trans (hb5.mono b4.size)
          obtain rfl : ev2 = .nilIface := by
            have h := HER.out
            rw [HTL.out, HRD.out.1] at h
            exact h.nil_inv
          have HX2 : Hid (FArg w5 xv l) := by
            have h := HX.out
            rw [HTL.out, HRD.out.2] at h
            exact h
          have C := Lib.hid (sameTrees_same HX2.out.1 (HV.out.ext b5).1 (by omega))
          clear HX HER HRD HX2
          go_wp2_with fail
          refine C.out.mono ?_
          clear C
          rintro e w6 ⟨rfl, hb6⟩
          have b6 := b5.trans (hb6.mono b5.size)
          by_cases h0 : cut < 0
          · have g0 : decide (cut < 0) = true := decide_eq_true h0
            clear h0
            go_wp2_with fail
            go_ret
            exact ⟨rfl, b6⟩
          · obtain ⟨k, rfl⟩ : ∃ k : Nat, cut = k := ⟨cut.toNat, by omega⟩
            have g0 : decide ((k : Int) < 0) = false := decide_eq_false (by omega)
            clear h0
            by_cases h1 : k < t.size
            · have g1 : decide ((t.size : Int) ≤ (k : Int)) = false := decide_eq_false (by omega)
              have sl := slice_to t (k : Int) k (by omega) rfl
              have HXT : Hid (bl (t.extract 0 k) = (packL l).take k) := by show _ = _; rw [bl_extract, List.drop_zero, Nat.sub_zero, HTL.out]
              have hk : k < (packL l).length := by rw [← HTL.out, bl_length]; exact h1
              have C := Lib.hid (packRead_any (t.extract 0 k) w6 (by simp; omega) (HR.out.ext b6))
              have HRC := Lib.hid (fun h => read_cut HCC.out hk h)
              generalize t.extract 0 k = u at sl HXT C
              clear hk
              go_wp2_with fail
              refine C.out.mono ?_
              clear C
              rintro e w7 ⟨⟨yv, ev3, rfl, HY, HER⟩, hb7⟩
              have b7 := b6.trans (hb7.mono b6.size)
              rw [HXT.out] at HY HER
              by_cases hc2 : (readEr ((packL l).take k)).code = 0
              · obtain rfl : ev3 = .nilIface := by
                  have h := HER.out
                  rw [(read_back hc2).2.2] at h
                  exact h.nil_inv
                obtain ⟨hlt, heq⟩ := HRC.out hc2
                obtain ⟨m, hm⟩ : ∃ m, (readT ((packL l).take k)).length = m := ⟨_, rfl⟩
                rw [hm] at hlt heq
                rw [heq] at HY
                have hml : (l.take m).length = m := by rw [List.length_take]; omega
                obtain ⟨yo, yc, rfl, y1, y2, y3⟩ := HY.out.1
                rw [hml] at y1
                obtain ⟨b, off, rfl, hbl, hcell⟩ := HM.out 0 (by omega)
                have C := Lib.hid (fun W (hW : Below w7.heap.size w7 W) => sameTrees_same (HY.out.1.ext hW) ((FRow.take hcell hbl (n := m) (by omega) (by omega) h2).ext (b7.trans (hW.mono b7.size))) (by omega))
                rw [hml] at C ⊢
                have hmi : (m : Int) < (l.length : Int) := by omega
                clear HY HER HRC hc2 heq hm hml y3 hcell
                go_wp2_with fail
                refine (C.out _ (Below.refl _ _)).mono ?_
                clear C
                rintro e w8 ⟨rfl, hb8⟩
                go_wp2_with fail
                go_ret
                exact ⟨rfl, b7.trans (hb8.mono b7.size)⟩
              · have HYN : Hid (readT ((packL l).take k) = []) := by show _ = _; unfold readT; rw [if_neg hc2]
                rw [HYN.out] at HY
                obtain ⟨te, xq, rfl⟩ := HER.out.some_inv hc2
                obtain ⟨yo, yc, rfl, _⟩ := HY.out.1
                clear HY HER HRC hc2
                go_wp2_with fail
                go_ret
                exact ⟨rfl, b7⟩
            · have g1 : decide ((t.size : Int) ≤ (k : Int)) = true := decide_eq_true (by omega)
              go_wp2_with fail
              go_ret
              exact ⟨rfl, b6⟩
        · have HTL : Hid (bl t = []) := by show _ = _; rw [HT.out]; unfold packT; rw [if_neg hc]
          obtain rfl : t = ⟨#[]⟩ := bl_inj HTL.out
          obtain ⟨te, xq, rfl⟩ := HER.out.some_inv hc
          clear HT HER hc HTL
          go_wp2_with fail
          go_ret
          exact ⟨rfl, b4⟩
    · have hd : decide ((2000 : Int) < (s.size : Int)) = true := decide_eq_true (by omega)
      go_wp2_with fail
      go_ret
      exact ⟨rfl, b1⟩
  · go_wp2_with fail
    go_ret
    exact ⟨rfl, b1⟩
end Go.Proofs.YtjebljhhbnfpfaaDoor
