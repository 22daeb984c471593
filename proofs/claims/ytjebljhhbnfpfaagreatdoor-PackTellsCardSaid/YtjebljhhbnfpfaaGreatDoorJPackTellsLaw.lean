/- chandlerylaw1.PackTells: the walk. -/
import Derived.Test.YtjebljhhbnfpfaaGreatDoorJPacked
import Derived.Test.YtjebljhhbnfpfaaGreatDoorJPackedUp
import Derived.Test.YtjebljhhbnfpfaaGreatDoorJRefPacked
import Derived.Test.YtjebljhhbnfpfaaGreatDoorJRefReadPack
import Derived.Test.YtjebljhhbnfpfaaGreatDoorJFiles
import Derived.Test.YtjebljhhbnfpfaaGreatDoorJTold
namespace Go.Proofs.YtjebljhhbnfpfaaGreatDoor
open Go Go.RowKit

theorem faultB_same (er : Er) : faultB er (er.code : Int) (er.at?.getD (-1)) = true := by unfold faultB; simp

/-- A fault, as the law holds it. -/
theorem faulted_same {E : Nat → Addr} {w : World} {v : Value} {er : Er} (hE : Env E w) (hv : IsErr E w v er) : Calls Tryz.prog 33 #[v, .agg #[.int .i64 er.code, .int .i64 (er.at?.getD (-1))]] w fun e w' =>
    e = .returned (.bool true) ∧ Below w.heap.size w w' := by
  have h := faulted1_any hE hv (er.code : Int) (er.at?.getD (-1))
  rw [faultB_same] at h
  exact h

theorem readT_len (s : ByteArray) (hs : s.size ≤ 1000000) : (readT (bl s)).length ≤ 1000000 := by
  unfold readT
  split
  · rename_i h
    have e := read_back h
    have h2 := (packL_five (allL (bl s)).1).1
    have h3 : readT (bl s) = (allL (bl s)).1 := by unfold readT; rw [if_pos h]
    rw [← h3, e.2.1, bl_length] at h2
    rw [← h3]
    omega
  · exact Nat.zero_le _

set_option maxHeartbeats 4000000 in
set_option maxRecDepth 100000 in
theorem packTells_walk {E : Nat → Addr} {w : World} (hR : REnv E w) (v : Value) (l : List FileB) (hv : FArg w v l) (s : ByteArray) :
    Calls Tryz.prog 6 #[v, .string s] w fun e w' => e = .returned (.bool true) ∧ Below w.heap.size w w' := by
  have HR := Lib.hid hR
  have HV := Lib.hid hv
  have C := Lib.hid (packed_any w hR)
  clear hR
  obtain ⟨⟨ao, cap, rfl, h1, h2, H3⟩, _⟩ := hv
  clear H3
  go_enter Tryz.func6, Tryz.ntmps6
  go_wp2_with fail
  refine C.out.mono ?_
  clear C
  rintro e w1 ⟨rfl, b1⟩
  have C := Lib.hid (longFiles_any _ l w1 (HV.out.ext b1).1)
  go_wp2_with fail
  refine C.out.mono ?_
  clear C
  rintro e w2 ⟨⟨n, rfl, hn, HN⟩, rfl⟩
  rcases hn with rfl | rfl
  · obtain ⟨hl, hs⟩ := HN.out rfl
    have HS : Hid (∀ f ∈ l, SmallF f) := fun f hf => by have := hs f hf; exact ⟨by omega, by omega⟩
    clear hs HN
    by_cases hss : s.size ≤ 2000 ∨ s.size = 20001
    · have hs1 : s.size ≤ 20001 := by omega
      have hss2 : decide ((2000 : Int) < (s.size : Int)) = false ∨ (decide ((2000 : Int) < (s.size : Int)) = true ∧ ((s.size : Int) != 20001) = false) := by
        rcases hss with h | h
        · exact .inl (decide_eq_false (by omega))
        · exact .inr ⟨decide_eq_true (by omega), by rw [h]; rfl⟩
      clear hss
      rcases hss2 with hd | ⟨hd, hd2⟩
      all_goals
        have C := Lib.hid (ownFiles_any _ l w1 (by omega) (HV.out.ext b1))
        go_wp2_with fail
        refine C.out.mono ?_
        clear C
        rintro e w3 ⟨⟨ov, rfl, HO⟩, hb3⟩
        have b3 := b1.trans (hb3.mono b1.size)
        have C := Lib.hid (packMake_any ov l w3 HO.out.arg.1 (by omega) HS.out (HR.out.ext b3).1)
        clear HO
        go_wp2_with fail
        refine C.out.mono ?_
        clear C
        rintro e w4 ⟨⟨x, ev, rfl, HX, HER⟩, hb4⟩
        have b4 := b3.trans (hb4.mono b3.size)
        have C := Lib.hid (refPackOf_any _ l w4 (HV.out.ext b4).1 (by omega) HS.out)
        go_wp2_with fail
        refine C.out.mono ?_
        clear C
        rintro e w5 ⟨⟨y, rfl, HY⟩, hb5⟩
        have b5 := b4.trans (hb5.mono b4.size)
        have HE5 := Lib.hid (HER.out.ext hb5)
        obtain rfl : x = y := bl_inj (by rw [HX.out, HY.out])
        obtain ⟨er, her⟩ : ∃ er, treeEr l = er := ⟨_, rfl⟩
        have HTE := Lib.hid her
        rw [her] at HE5 ⊢
        clear her HX HY HER
        obtain ⟨q, hq⟩ : ∃ q, w5.heap.size = q := ⟨_, rfl⟩
        obtain ⟨w6, hw6⟩ : ∃ w6, w5.alloc (.cells #[.int .i64 er.code, .int .i64 (er.at?.getD (-1))] 49) = w6 := ⟨_, rfl⟩
        have hal : Below w5.heap.size w5 w6 := by rw [← hw6]; exact (Below.refl _ _).alloc (Nat.le_refl _) _
        have HF6 : Hid (FaultAt w6 q er.code (er.at?.getD (-1))) := by rw [← hw6, ← hq]; exact FaultAt.new _ _ _
        have b6 := b5.trans (hal.mono b5.size)
        have hwq : w.heap.size ≤ q := by rw [← hq]; exact b5.size
        obtain ⟨c0, c1, _, _⟩ := HF6.out.cells
        have HW6 := Lib.hid hw6
        have HQ := Lib.hid hq
        have C := Lib.hid (faulted_same (HR.out.ext b6).1.1.1 (HE5.out.ext hal))
        unfold erA
        clear hw6 hq hal HE5
        go_wp2_with fail
        rw [HW6.out, HQ.out]
        go_wp2_with fail
        refine C.out.mono ?_
        clear C c0 c1
        rintro e w7 ⟨rfl, hb7⟩
        have b7 := b6.trans (hb7.mono b6.size)
        have HF7 := Lib.hid (HF6.out.ext hb7)
        have qx : (x.toList == x.toList) = true := beq_self_eq_true _
        clear HF6
        have C := Lib.hid (ownFiles_any _ l w7 (by omega) (HV.out.ext b7))
        go_wp2_with fail
        refine C.out.mono ?_
        clear C
        rintro e w8 ⟨⟨ov2, rfl, HO⟩, hb8⟩
        have b8 := b7.trans (hb8.mono b7.size)
        have HF8 := Lib.hid (HF7.out.ext hb8)
        have C := Lib.hid (packSum_any ov2 l w8 HO.out.arg.1 (by omega) HS.out (HR.out.ext b8).1)
        clear HO HF7 qx
        go_wp2_with fail
        refine C.out.mono ?_
        clear C
        rintro e w9 ⟨⟨ev2, rfl, HER⟩, hb9⟩
        have b9 := b8.trans (hb9.mono b8.size)
        have HF9 := Lib.hid (HF8.out.ext hb9)
        have C := Lib.hid (refTreeSum_any _ l w9 (HV.out.ext b9).1 (by omega) HS.out)
        clear HF8
        go_wp2_with fail
        refine C.out.mono ?_
        clear C
        rintro e w10 ⟨rfl, hb10⟩
        have b10 := b9.trans (hb10.mono b9.size)
        have HF10 := Lib.hid (HF9.out.ext hb10)
        have HE10 := Lib.hid (HER.out.ext hb10)
        rw [HTE.out] at HE10 ⊢
        clear HER HF9
        unfold erA
        obtain ⟨c0, c1, f0, f1⟩ := HF10.out.cells
        have HFS := HF10.out.store (er.code : Int) (er.at?.getD (-1))
        obtain ⟨d0, d1, _, _⟩ := HFS.cells
        have bS := store_below b10 hwq (.int .i64 er.code) (.int .i64 (er.at?.getD (-1)))
        have HFN := Lib.hid HFS
        have C := Lib.hid (faulted_same (HR.out.ext bS).1.1.1 (HE10.out.store HF10.out (.int .i64 er.code) (.int .i64 (er.at?.getD (-1)))))
        clear HFS HE10
        go_wp2_with fail
        generalize (w10.setCell ⟨q, 0, none⟩ (.int .i64 er.code)).setCell ⟨q, 1, none⟩ (.int .i64 (er.at?.getD (-1))) = w11 at *
        refine C.out.mono ?_
        clear C c0 c1 d0 d1 f0 f1
        rintro e w12 ⟨rfl, hb12⟩
        have b12 := bS.trans (hb12.mono bS.size)
        have HF12 := Lib.hid (HFN.out.ext hb12)
        have qs : ((sumL (packT l) : Nat) : Int) = ((sumL (packT l) : Nat) : Int) := rfl
        clear HFN HF10 qs
        have C := Lib.hid (packRead_any s w12 (by omega) (HR.out.ext b12))
        go_wp2_with fail
        refine C.out.mono ?_
        clear C
        rintro e w13 ⟨⟨yv, ev3, rfl, HY, HER⟩, hb13⟩
        have b13 := b12.trans (hb13.mono b12.size)
        have HF13 := Lib.hid (HF12.out.ext hb13)
        have C := Lib.hid (refReadPack_any s w13 (by omega))
        clear HF12
        go_wp2_with fail
        refine C.out.mono ?_
        clear C
        rintro e w14 ⟨⟨zv, rfl, HZ⟩, hb14⟩
        have b14 := b13.trans (hb14.mono b13.size)
        have HF14 := Lib.hid (HF13.out.ext hb14)
        have HE14 := Lib.hid (HER.out.ext hb14)
        have HY14 := Lib.hid (HY.out.ext hb14)
        obtain ⟨es, hes⟩ : ∃ es, readEr (bl s) = es := ⟨_, rfl⟩
        rw [hes] at HE14 ⊢
        have HLR := Lib.hid (readT_len s (by omega))
        obtain ⟨ys, hys⟩ : ∃ ys, readT (bl s) = ys := ⟨_, rfl⟩
        rw [hys] at HY14 HZ HLR
        clear HER HF13 HY hes hys
        unfold erA
        obtain ⟨c0, c1, f0, f1⟩ := HF14.out.cells
        have HFS := HF14.out.store (es.code : Int) (es.at?.getD (-1))
        obtain ⟨d0, d1, _, _⟩ := HFS.cells
        have bS := store_below b14 hwq (.int .i64 es.code) (.int .i64 (es.at?.getD (-1)))
        have HFN := Lib.hid HFS
        have C := Lib.hid (faulted_same (HR.out.ext bS).1.1.1 (HE14.out.store HF14.out (.int .i64 es.code) (.int .i64 (es.at?.getD (-1)))))
        have HYS := Lib.hid (HY14.out.store HF14.out (.int .i64 es.code) (.int .i64 (es.at?.getD (-1))))
        have HZS := Lib.hid (HZ.out.store HF14.out (.int .i64 es.code) (.int .i64 (es.at?.getD (-1))))
        clear HFS HE14
        go_wp2_with fail
        generalize (w14.setCell ⟨q, 0, none⟩ (.int .i64 es.code)).setCell ⟨q, 1, none⟩ (.int .i64 (es.at?.getD (-1))) = w15 at *
        refine C.out.mono ?_
        clear C c0 c1 d0 d1 f0 f1
        rintro e w16 ⟨rfl, hb16⟩
        have b16 := bS.trans (hb16.mono bS.size)
        have C := Lib.hid (sameTrees_same (HYS.out.ext hb16).1 (HZS.out.ext hb16).1 HLR.out)
        go_wp2_with fail
        refine C.out.mono ?_
        clear C
        rintro e w17 ⟨rfl, hb17⟩
        go_wp2_with fail
        go_ret
        exact ⟨rfl, b16.trans (hb17.mono b16.size)⟩
    · have g1 : decide ((2000 : Int) < (s.size : Int)) = true := decide_eq_true (by omega)
      have g2 : ((s.size : Int) != 20001) = true := by rw [bne_iff_ne]; omega
      clear hss
      go_wp2_with fail
      go_ret
      exact ⟨rfl, b1⟩
  · go_wp2_with fail
    go_ret
    exact ⟨rfl, b1⟩
end Go.Proofs.YtjebljhhbnfpfaaGreatDoor
