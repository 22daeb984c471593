/- chandlerylaw3.LockTells: the walk. -/
import Derived.Test.YtgchgdkpipanjaaGreatDoorKLockThrees
import Derived.Test.YtgchgdkpipanjaaGreatDoorKLockRead
import Derived.Test.YtgchgdkpipanjaaGreatDoorKLockDiffs3
import Derived.Test.YtgchgdkpipanjaaGreatDoorKRefLocks
import Derived.Test.YtgchgdkpipanjaaGreatDoorKRefSetWant
import Derived.Test.YtgchgdkpipanjaaGreatDoorKRefDiff
import Derived.Test.YtgchgdkpipanjaaGreatDoorKRefLinkUp
import Derived.Deep.RegionWith
namespace Go.Proofs.YtgchgdkpipanjaaGreatDoor
open Go Go.RowKit

theorem texts_row {w : World} {B : Nat} {v : Value} {zs : List ByteArray} (h : SOwn w B v zs) : Row encStr 1 w v zs := by
  refine Row.of_owns (enc := encStr) (base := B) (e := 9) (fun _ => rfl) ?_
  have e : ∀ l : List ByteArray, l.flatMap encStr = l.map Value.string := fun l => by
    induction l with
    | nil => rfl
    | cons x l ih => rw [List.flatMap_cons, ih]; rfl
  rw [e]
  exact h
theorem linesW_len : ∀ (cs : List (List UInt8)) (i : Nat), (linesW i cs).2.length ≤ cs.length
  | [], i => Nat.zero_le _
  | [x], i => by
    rw [linesW_one]
    split <;> exact Nat.zero_le _
  | x :: y :: r, i => by
    rw [linesW_cons i x (fun h => by cases h)]
    have := linesW_len (y :: r) (i + 1)
    split
    · exact Nat.zero_le _
    · simp only [List.length_cons] at *; omega
theorem readLk_len (s : ByteArray) (hs : s.size ≤ 1500 := by omega) : (readLk (bl s)).2.length ≤ 1000000 := by
  have h1 := linesW_len (cutL 10 (bl s)) 0
  have h2 := cutL_len 10 (bl s)
  have h3 : (bl s).count 10 ≤ (bl s).length := List.count_le_length
  rw [bl_length] at h3
  unfold readLk
  split
  · exact Nat.zero_le _
  · split
    · exact Nat.zero_le _
    · show (linesW 0 (cutL 10 (bl s))).2.length ≤ _
      omega
theorem setLk_len (l : List WantB) (x : WantB) : (setLk l x).2.length ≤ l.length + 1 := by
  unfold setLk
  split
  · exact Nat.zero_le _
  · split
    · exact Nat.zero_le _
    · split
      · simp only [List.length_append, List.length_cons, List.length_take, List.length_drop]; omega
      · split
        · exact Nat.zero_le _
        · simp only [List.length_append, List.length_cons, List.length_take, List.length_drop]; omega
theorem dropLk_len (l : List WantB) (n : ByteArray) : (dropLk l n).2.length ≤ l.length := by
  unfold dropLk
  split
  · exact Nat.zero_le _
  · split
    · exact Nat.zero_le _
    · exact List.length_eraseIdx_le _ _
theorem diffGo_len (a b : List WantB) : (diffGo a b).length ≤ a.length + b.length := by
  induction a, b using diffGo.induct with
  | case1 => unfold diffGo; simp
  | case2 x a ih => unfold diffGo; simp only [List.length_cons, List.length_nil] at *; omega
  | case3 y b ih => unfold diffGo; simp only [List.length_cons, List.length_nil] at *; omega
  | case4 x a y b h ih => unfold diffGo; rw [if_pos h]; simp only [List.length_cons] at *; omega
  | case5 x a y b h1 h2 ih => unfold diffGo; rw [if_neg h1, if_pos h2]; simp only [List.length_cons] at *; omega
  | case6 x a y b h1 h2 ih =>
    unfold diffGo
    rw [if_neg h1, if_neg h2, List.length_append]
    have : (if x = y then [] else [((42 : UInt8), x.name)]).length ≤ 1 := by split <;> simp
    simp only [List.length_cons] at *
    omega
theorem diffLk_len (a b : List WantB) : (diffLk a b).2.length ≤ a.length + b.length := by
  unfold diffLk
  split
  · exact Nat.zero_le _
  · split
    · exact Nat.zero_le _
    · exact diffGo_len a b
theorem faulted_same (er : Er) (c a : Int) (h1 : (er.code : Int) = c) (h2 : er.at?.getD (-1) = a) : faultB3 er c a = true := by subst h1 h2; simp [faultB3]

set_option maxHeartbeats 8000000 in
set_option maxRecDepth 100000 in
theorem lockTells_walk {E : Nat → Addr} {w : World} (hR : REnv E w) (va vb : Value) (l m : List WantB) (x : WantB) (n s : ByteArray) (hva : WArg w va l) (hvb : WArg w vb m) :
    Calls Tryz.prog 5 #[va, vb, .agg #[.string x.name, .string x.url, .string x.kind, .int .i64 x.strip, .int .i64 x.sum], .string n, .string s] w fun e w' => e = .returned (.bool true) ∧ Below w.heap.size w w' := by
  obtain ⟨px, hpx⟩ : ∃ px, w.heap.size = px := ⟨_, rfl⟩
  obtain ⟨wx, hwx⟩ : ∃ wx, w.alloc (.cells #[.string x.name, .string x.url, .string x.kind, .int .i64 x.strip, .int .i64 x.sum] 41) = wx := ⟨_, rfl⟩
  have hbx : Below w.heap.size w wx := by rw [← hwx]; exact (Below.refl _ _).alloc (Nat.le_refl _) _
  have BX := Lib.hid (show WBox wx px x by rw [← hwx, ← hpx]; exact WBox.new w x)
  have HBX := Lib.hid hbx
  have HA := Lib.hid (hva.ext hbx)
  have HB := Lib.hid (hvb.ext hbx)
  have HE := Lib.hid (hR.ext hbx)
  have HWX := Lib.hid hwx
  have HPX := Lib.hid hpx
  have mixed : Tryz.prog.follows .mixedOrders = true := by kernel_rfl
  have CL := Lib.hid (locked_any wx (hR.ext hbx).1)
  obtain ⟨ao, ac, rfl⟩ := hva.1.len
  obtain ⟨bo, bc, rfl⟩ := hvb.1.len
  clear hva hvb hR hbx hwx hpx
  go_enter Tryz.func5, Tryz.ntmps5
  go_upto_region 1 with fail
  rw [HWX.out, HPX.out]
  go_wp2_with fail
  refine CL.out.mono ?_
  clear CL
  rintro e w1 ⟨rfl, hb1⟩
  have B1 := Lib.hid hb1
  clear hb1
  have C := Lib.hid (longWants_any (.slice ao l.length ac) l w1 (HA.out.ext B1.out).1)
  go_wp2_with fail
  refine C.out.mono ?_
  clear C
  rintro e w2 ⟨rfl, hb2⟩
  have B2 := Lib.hid (B1.out.trans (hb2.mono B1.out.size))
  clear hb2 B1
  cases hll : longLs l with
  | true =>
    go_wp2_with fail
    go_ret
    exact ⟨rfl, HBX.out.trans (B2.out.mono HBX.out.size)⟩
  | false =>
  have hl22 := (longLs_false hll).1
  have HSL := Lib.hid (longLs_small hll)
  clear hll
  have C := Lib.hid (longWants_any (.slice bo m.length bc) m w2 (HB.out.ext B2.out).1)
  go_wp2_with fail
  refine C.out.mono ?_
  clear C
  rintro e w3 ⟨rfl, hb3⟩
  have B3 := Lib.hid (B2.out.trans (hb3.mono B2.out.size))
  clear hb3 B2
  cases hlm : longLs m with
  | true =>
    go_wp2_with fail
    go_ret
    exact ⟨rfl, HBX.out.trans (B3.out.mono HBX.out.size)⟩
  | false =>
  have hm22 := (longLs_false hlm).1
  have HSM := Lib.hid (longLs_small hlm)
  clear hlm
  obtain ⟨c0, c1, c2, c3, c4⟩ := (BX.out.ext B3.out).cells
  have C := Lib.hid (longWant_any x w3)
  go_wp2_with fail
  refine C.out.mono ?_
  clear C c0 c1 c2 c3 c4
  rintro e w4 ⟨rfl, hb4⟩
  have B4 := Lib.hid (B3.out.trans (hb4.mono B3.out.size))
  clear hb4 B3
  by_cases hlx : 30 < x.name.size ∨ 120 < x.url.size ∨ 20 < x.kind.size
  · rw [show longW x = 1 from if_pos hlx, show ((1 : Nat) : Int) = 1 from rfl]
    go_wp2_with fail
    go_ret
    exact ⟨rfl, HBX.out.trans (B4.out.mono HBX.out.size)⟩
  rw [show longW x = 0 from if_neg hlx, show ((0 : Nat) : Int) = 0 from rfl]
  have HSX : Hid (SmallW x) := by
    show SmallW x
    refine ⟨?_, ?_, ?_⟩ <;> omega
  clear hlx
  by_cases hn : n.size ≤ 30
  rotate_left
  · have hd : decide ((n.size : Int) > 30) = true := decide_eq_true (by omega)
    have hd2 : (n.size : Int) > 30 := by omega
    go_wp2_with fail
    go_ret
    exact ⟨rfl, HBX.out.trans (B4.out.mono HBX.out.size)⟩
  have hd : decide ((n.size : Int) > 30) = false := decide_eq_false (by omega)
  have hd2 : ¬ (n.size : Int) > 30 := by omega
  by_cases hs : s.size ≤ 1500
  rotate_left
  · have hd3 : decide ((s.size : Int) > 1500) = true := decide_eq_true (by omega)
    have hd4 : (s.size : Int) > 1500 := by omega
    go_wp2_with fail
    go_ret
    exact ⟨rfl, HBX.out.trans (B4.out.mono HBX.out.size)⟩
  have hd3 : decide ((s.size : Int) > 1500) = false := decide_eq_false (by omega)
  have hd4 : ¬ (s.size : Int) > 1500 := by omega
  have C := Lib.hid (ownWants_any (.slice ao l.length ac) l w4 (by omega) (HA.out.ext B4.out))
  go_wp2_with fail
  clear hd hd2 hd3 hd4
  refine C.out.mono ?_
  clear C
  rintro e w5 ⟨⟨ov, rfl, HO⟩, hb5⟩
  have BX5 := Lib.hid (B4.out.trans (hb5.mono B4.out.size))
  clear hb5 B4
  have HAX := Lib.hid (HA.out.ext BX5.out)
  have HBB := Lib.hid (HB.out.ext BX5.out)
  have HE5 := Lib.hid (HE.out.ext BX5.out)
  have BX0 := Lib.hid (BX.out.ext BX5.out)
  have BW0 := Lib.hid (HBX.out.trans (BX5.out.mono HBX.out.size))
  have HOV := Lib.hid (HO.out.arg)
  clear HA HB HE BX HBX HO BX5
  have C := Lib.hid (refLockFault_any (.slice ao l.length ac) l w5 HAX.out.1 (by omega) HSL.out)
  go_wp2_with fail
  refine C.out.mono ?_
  clear C
  rintro e w6 ⟨rfl, hb6⟩
  obtain ⟨c, hc⟩ : ∃ c : Int, ((lockEr l).code : Int) = c := ⟨_, rfl⟩
  obtain ⟨a, ha⟩ : ∃ a : Int, (lockEr l).at?.getD (-1) = a := ⟨_, rfl⟩
  have HC := Lib.hid hc
  have HAA := Lib.hid ha
  rw [show erA (lockEr l) = #[.int .i64 c, .int .i64 a] by unfold erA; rw [hc, ha]]
  obtain ⟨q, hq⟩ : ∃ q, w6.heap.size = q := ⟨_, rfl⟩
  obtain ⟨w7, hw7⟩ : ∃ w7, w6.alloc (.cells #[.int .i64 c, .int .i64 a] 59) = w7 := ⟨_, rfl⟩
  have hal7 : Below w6.heap.size w6 w7 := by rw [← hw7]; exact (Below.refl _ _).alloc (Nat.le_refl _) _
  have F7 := Lib.hid (show FaultAt w7 q c a by rw [← hw7, ← hq]; exact FaultAt.new w6 _ _)
  have B7 := Lib.hid (hb6.trans (hal7.mono hb6.size))
  have HW7 := Lib.hid hw7
  have HQ := Lib.hid hq
  have hq5 : w5.heap.size ≤ q := by rw [← hq]; exact hb6.size
  clear hb6 hc ha hal7 hw7 hq
  have C := Lib.hid (lockText_any (E := E) ov l w7 (HOV.out.ext B7.out).1 (by omega) HSL.out (HE5.out.ext B7.out).1)
  obtain ⟨x0, x1, _, _⟩ := F7.out.cells
  go_upto_region 6 with fail
  rw [HW7.out, HQ.out]
  go_wp2_with fail
  refine C.out.mono ?_
  clear C x0 x1
  rintro e w8 ⟨⟨t, ev, rfl, HT, HER⟩, hb8⟩
  have F8 := Lib.hid (F7.out.ext hb8)
  have B8 := Lib.hid (B7.out.trans (hb8.mono B7.out.size))
  clear hb8 F7 B7
  go_upto_region 7 with fail
  have HQ8 := Lib.hid (Nat.le_refl w8.heap.size)
  have CCK : Hid (∀ W, Below w8.heap.size w8 W → Calls Tryz.prog 9 #[ov] W fun e w' => (∃ ev1, e = .returned ev1 ∧ Hid (IsErr E w' ev1 (lockEr l))) ∧ Below w8.heap.size w8 w') := fun W hW => by
    refine (lockCheck_any (E := E) ov l W (HOV.out.ext (B8.out.trans (hW.mono B8.out.size))).1 (by omega) HSL.out (HE5.out.ext (B8.out.trans (hW.mono B8.out.size))).1.1).mono ?_
    rintro e w' ⟨⟨ev1, rfl, h1⟩, h2⟩
    exact ⟨⟨ev1, rfl, h1⟩, hW.trans (h2.mono hW.size)⟩
  have CFL : Hid (∀ (ev1 : Value) W, IsErr E W ev1 (lockEr l) → Below w8.heap.size w8 W → Calls Tryz.prog 28 #[ev1, .agg #[.int .i64 c, .int .i64 a]] W fun e w' => e = .returned (.bool true) ∧ Below w8.heap.size w8 w') := fun ev1 W h1 hW => by
    have := faulted3_any (E := E) (HE5.out.ext (B8.out.trans (hW.mono B8.out.size))).1.1.1 h1 c a
    rw [faulted_same _ _ _ HC.out HAA.out] at this
    refine this.mono ?_
    rintro e w' ⟨rfl, h2⟩
    exact ⟨rfl, hW.trans (h2.mono hW.size)⟩
  have BD0 := Lib.hid (below_drewN w8.heap.size w8 1)
  go_cut [75] from 56 to 75 (fun t wx => t = .bool false ∧ Hid (Below w8.heap.size w8 wx))
  case first =>
    obtain ⟨x0, x1, _, _⟩ := F8.out.cells
    by_cases hz : c = 0
    · have hd0 : decide (c > 0) = false := decide_eq_false (by omega)
      have hd1 : ¬ c > 0 := by omega
      clear hz
      first
        | (go_region_with
            (first
          | (go_at_call 9; refine (CCK.out _ BD0.out).mono ?_; rintro e w9 ⟨⟨ev1, rfl, HE1⟩, b9⟩; obtain ⟨p0, p1, _, _⟩ := (F8.out.ext b9).cells)
          | (go_at_call 28; refine (CFL.out ev _ (HER.out.ext b10) b10).mono ?_; rintro e w11 ⟨rfl, b11⟩; obtain ⟨r0, r1, _, _⟩ := (F8.out.ext b11).cells)
          | (go_at_call 28; refine (CFL.out ev1 _ HE1.out b9).mono ?_; rintro e w10 ⟨rfl, b10⟩; obtain ⟨z0, z1, _, _⟩ := (F8.out.ext b10).cells)))
        | fail
      all_goals
        go_wp2_with fail
        go_meet
        exact ⟨rfl, b11⟩
    · have hcc := HC.out
      have HTE : t.toList.isEmpty = true := by rw [toList_bl, HT.out, if_neg (by omega)]; rfl
      have hpos : (0 : Int) < c := by omega
      clear hz hcc
      go_region_held3 (fun W : World => W.cell? ⟨q, 0, none⟩ = some (.int .i64 c) ∧ W.cell? ⟨q, 1, none⟩ = some (.int .i64 a)) (first | exact ⟨r0, r1⟩ | exact ⟨z0, z1⟩ | exact ⟨p0, p1⟩ | exact ⟨x0, x1⟩)
        (first
          | (go_at_call 9; refine (CCK.out _ BD0.out).mono ?_; rintro e w9 ⟨⟨ev1, rfl, HE1⟩, b9⟩; obtain ⟨p0, p1, _, _⟩ := (F8.out.ext b9).cells)
          | (go_at_call 28; refine (CFL.out ev _ (HER.out.ext b10) b10).mono ?_; rintro e w11 ⟨rfl, b11⟩; obtain ⟨r0, r1, _, _⟩ := (F8.out.ext b11).cells)
          | (go_at_call 28; refine (CFL.out ev1 _ HE1.out b9).mono ?_; rintro e w10 ⟨rfl, b10⟩; obtain ⟨z0, z1, _, _⟩ := (F8.out.ext b10).cells))
      go_wp2_with fail
      go_meet
      exact ⟨rfl, b11⟩
  case rest =>
  obtain ⟨rfl, B9⟩ := hcut
  have F9 := Lib.hid (F8.out.ext B9.out)
  have B9 := Lib.hid (B8.out.trans (B9.out.mono B8.out.size))
  obtain ⟨w9, rfl⟩ : ∃ w9, w9 = wc := ⟨_, rfl⟩
  clear CCK CFL BD0 HQ8 F8 HER B8
  go_upto_region 9 with fail
  go_cut [84] from 76 to 84 (fun t wx => t = .bool false ∧ Hid (Below w9.heap.size w9 wx))
  case first =>
    obtain ⟨x0, x1, _, _⟩ := F9.out.cells
    by_cases hz : c = 0
    · have hcc := HC.out
      have hc0 : (lockEr l).code = 0 := by omega
      have e0 : (c == 0) = true := by rw [hz]; rfl
      have HT1 : Hid (bl t = lockTx l) := by show _ = _; rw [HT.out, if_pos hc0]
      have C := Lib.hid (refLockText_any (.slice ao l.length ac) l w9 (HAX.out.ext B9.out).1 ((lockOk_iff l).1 hc0).few HSL.out)
      clear hz hcc hc0
      go_wp2_with fail
      refine C.out.mono ?_
      clear C
      rintro e w10 ⟨⟨t2, rfl, HT2⟩, hb10⟩
      obtain rfl : t = t2 := bl_inj (HT1.out.trans HT2.out.symm)
      go_wp2_with fail
      go_meet
      exact ⟨rfl, hb10⟩
    · have e0 : (c == 0) = false := by rw [beq_eq_false_iff_ne]; exact hz
      go_wp2_with fail
      go_meet
      exact ⟨rfl, Below.refl _ _⟩
  case rest =>
  obtain ⟨rfl, B10⟩ := hcut
  have F10 := Lib.hid (F9.out.ext B10.out)
  have B10 := Lib.hid (B9.out.trans (B10.out.mono B9.out.size))
  obtain ⟨w10, rfl⟩ : ∃ w10, w10 = wc := ⟨_, rfl⟩
  clear F9 B9 HT
  have C := Lib.hid (lockRead_any (E := E) s w10 (by omega) (HE5.out.ext B10.out))
  go_wp2_with fail
  refine C.out.mono ?_
  clear C
  rintro e w11 ⟨⟨v11, ev11, rfl, HI11, HW11⟩, hb11⟩
  have F11 := Lib.hid (F10.out.ext hb11)
  have B11 := Lib.hid (B10.out.trans (hb11.mono B10.out.size))
  have hqk11 : q < w10.heap.size := F10.out.lt
  clear hb11 F10
  have C := Lib.hid (refReadLock_any s w11 (by omega))
  go_wp2_with fail
  refine C.out.mono ?_
  clear C
  rintro e w12 ⟨⟨v12, rfl, HW12⟩, hb12⟩
  have hrl : (readLk (bl s)).2.length ≤ 1000000 := (readLk_len s)
  obtain ⟨r, hr⟩ : ∃ r, readLk (bl s) = r := ⟨_, rfl⟩
  rw [hr] at HI11 HW11 HW12 hrl ⊢
  clear hr
  obtain ⟨c, hc⟩ : ∃ c : Int, (r.1.code : Int) = c := ⟨_, rfl⟩
  obtain ⟨a, ha⟩ : ∃ a : Int, r.1.at?.getD (-1) = a := ⟨_, rfl⟩
  rw [show erA r.1 = #[.int .i64 c, .int .i64 a] by unfold erA; rw [hc, ha]]
  have HC := Lib.hid hc
  have HAA := Lib.hid ha
  have F12 := Lib.hid (F11.out.ext hb12)
  have B12 := Lib.hid (B11.out.trans (hb12.mono B11.out.size))
  have hqk12 : q < w11.heap.size := F11.out.lt
  have F13 := Lib.hid (F12.out.store c a)
  have B13 := Lib.hid (store_below B12.out hq5 (.int .i64 c) (.int .i64 a))
  have HI13 := Lib.hid ((HI11.out.ext hb12).store F12.out (.int .i64 c) (.int .i64 a))
  have HV13 := Lib.hid (wown_fault (HW11.out.ext hb12) hqk11 (.int .i64 c) (.int .i64 a))
  have HU13 := Lib.hid (wown_fault HW12.out hqk12 (.int .i64 c) (.int .i64 a))
  obtain ⟨x0, x1, x2, x3⟩ := F12.out.cells
  obtain ⟨w13, hw13⟩ : ∃ w13, (w12.setCell ⟨q, 0, none⟩ (.int .i64 c)).setCell ⟨q, 1, none⟩ (.int .i64 a) = w13 := ⟨_, rfl⟩
  rw [hw13] at F13 B13 HI13 HV13 HU13
  have HW13 := Lib.hid hw13
  clear hb12 hc ha hw13 HI11 HW11 HW12 F11 B11
  go_upto_region 13 with fail
  rw [HW13.out]
  clear x0 x1 x2 x3 F12 B12
  obtain ⟨x0, x1, _, _⟩ := F13.out.cells
  have C := Lib.hid (faulted3_any (E := E) (HE5.out.ext B13.out).1.1.1 HI13.out c a)
  rw [faulted_same _ _ _ HC.out HAA.out] at C
  go_wp2_with fail
  refine C.out.mono ?_
  clear C x0 x1
  rintro e w14 ⟨rfl, hb14⟩
  have F14 := Lib.hid (F13.out.ext hb14)
  have B14 := Lib.hid (B13.out.trans (hb14.mono B13.out.size))
  have C := Lib.hid (sameWants_any (WOwn.ext HV13.out hb14).row (WOwn.ext HU13.out hb14).row hrl)
  rw [decide_eq_true rfl] at C
  clear hrl hb14 HI13 HV13 HU13 F13 B13 HC HAA
  go_wp2_with fail
  refine C.out.mono ?_
  clear C
  rintro e w15 ⟨rfl, hb15⟩
  have F15 := Lib.hid (F14.out.ext hb15)
  have B15 := Lib.hid (B14.out.trans (hb15.mono B14.out.size))
  clear hb15 F14 B14
  obtain ⟨c0, c1, c2, c3, c4⟩ := (BX0.out.ext B15.out).cells
  have C := Lib.hid (lockSet_any (E := E) ov l x w15 (HOV.out.ext B15.out) (by omega) HSL.out HSX.out (HE5.out.ext B15.out).1.1)
  go_wp2_with fail
  refine C.out.mono ?_
  clear C c0 c1 c2 c3 c4
  rintro e w16 ⟨⟨v16, ev16, rfl, HI16, HW16⟩, hb16⟩
  have F16 := Lib.hid (F15.out.ext hb16)
  have B16 := Lib.hid (B15.out.trans (hb16.mono B15.out.size))
  have hqk16 : q < w15.heap.size := F15.out.lt
  clear hb16 F15
  obtain ⟨c0, c1, c2, c3, c4⟩ := (BX0.out.ext B16.out).cells
  have C := Lib.hid (refSetWant_any (.slice ao l.length ac) l x w16 (HAX.out.ext B16.out) (by omega) HSL.out HSX.out)
  go_wp2_with fail
  refine C.out.mono ?_
  clear C c0 c1 c2 c3 c4
  rintro e w17 ⟨⟨v17, rfl, HW17⟩, hb17⟩
  have hrl : (setLk l x).2.length ≤ 1000000 := (Nat.le_trans (setLk_len l x) (by omega))
  obtain ⟨r, hr⟩ : ∃ r, setLk l x = r := ⟨_, rfl⟩
  rw [hr] at HI16 HW16 HW17 hrl ⊢
  clear hr
  obtain ⟨c, hc⟩ : ∃ c : Int, (r.1.code : Int) = c := ⟨_, rfl⟩
  obtain ⟨a, ha⟩ : ∃ a : Int, r.1.at?.getD (-1) = a := ⟨_, rfl⟩
  rw [show erA r.1 = #[.int .i64 c, .int .i64 a] by unfold erA; rw [hc, ha]]
  have HC := Lib.hid hc
  have HAA := Lib.hid ha
  have F17 := Lib.hid (F16.out.ext hb17)
  have B17 := Lib.hid (B16.out.trans (hb17.mono B16.out.size))
  have hqk17 : q < w16.heap.size := F16.out.lt
  have F18 := Lib.hid (F17.out.store c a)
  have B18 := Lib.hid (store_below B17.out hq5 (.int .i64 c) (.int .i64 a))
  have HI18 := Lib.hid ((HI16.out.ext hb17).store F17.out (.int .i64 c) (.int .i64 a))
  have HV18 := Lib.hid (wown_fault (HW16.out.ext hb17) hqk16 (.int .i64 c) (.int .i64 a))
  have HU18 := Lib.hid (wown_fault HW17.out hqk17 (.int .i64 c) (.int .i64 a))
  obtain ⟨x0, x1, x2, x3⟩ := F17.out.cells
  obtain ⟨w18, hw18⟩ : ∃ w18, (w17.setCell ⟨q, 0, none⟩ (.int .i64 c)).setCell ⟨q, 1, none⟩ (.int .i64 a) = w18 := ⟨_, rfl⟩
  rw [hw18] at F18 B18 HI18 HV18 HU18
  have HW18 := Lib.hid hw18
  clear hb17 hc ha hw18 HI16 HW16 HW17 F16 B16
  go_upto_region 17 with fail
  rw [HW18.out]
  clear x0 x1 x2 x3 F17 B17
  obtain ⟨x0, x1, _, _⟩ := F18.out.cells
  have C := Lib.hid (faulted3_any (E := E) (HE5.out.ext B18.out).1.1.1 HI18.out c a)
  rw [faulted_same _ _ _ HC.out HAA.out] at C
  go_wp2_with fail
  refine C.out.mono ?_
  clear C x0 x1
  rintro e w19 ⟨rfl, hb19⟩
  have F19 := Lib.hid (F18.out.ext hb19)
  have B19 := Lib.hid (B18.out.trans (hb19.mono B18.out.size))
  have C := Lib.hid (sameWants_any (WOwn.ext HV18.out hb19).row (WOwn.ext HU18.out hb19).row hrl)
  rw [decide_eq_true rfl] at C
  clear hrl hb19 HI18 HV18 HU18 F18 B18 HC HAA
  go_wp2_with fail
  refine C.out.mono ?_
  clear C
  rintro e w20 ⟨rfl, hb20⟩
  have F20 := Lib.hid (F19.out.ext hb20)
  have B20 := Lib.hid (B19.out.trans (hb20.mono B19.out.size))
  clear hb20 F19 B19
  have C := Lib.hid (lockDrop_any (E := E) ov l n w20 (HOV.out.ext B20.out) (by omega) HSL.out (HE5.out.ext B20.out).1.1)
  go_wp2_with fail
  refine C.out.mono ?_
  clear C
  rintro e w21 ⟨⟨v21, ev21, rfl, HI21, HW21⟩, hb21⟩
  have F21 := Lib.hid (F20.out.ext hb21)
  have B21 := Lib.hid (B20.out.trans (hb21.mono B20.out.size))
  have hqk21 : q < w20.heap.size := F20.out.lt
  clear hb21 F20
  have C := Lib.hid (refDropWant_any (.slice ao l.length ac) l n w21 (HAX.out.ext B21.out) (by omega) HSL.out)
  go_wp2_with fail
  refine C.out.mono ?_
  clear C
  rintro e w22 ⟨⟨v22, rfl, HW22⟩, hb22⟩
  have hrl : (dropLk l n).2.length ≤ 1000000 := (Nat.le_trans (dropLk_len l n) (by omega))
  obtain ⟨r, hr⟩ : ∃ r, dropLk l n = r := ⟨_, rfl⟩
  rw [hr] at HI21 HW21 HW22 hrl ⊢
  clear hr
  obtain ⟨c, hc⟩ : ∃ c : Int, (r.1.code : Int) = c := ⟨_, rfl⟩
  obtain ⟨a, ha⟩ : ∃ a : Int, r.1.at?.getD (-1) = a := ⟨_, rfl⟩
  rw [show erA r.1 = #[.int .i64 c, .int .i64 a] by unfold erA; rw [hc, ha]]
  have HC := Lib.hid hc
  have HAA := Lib.hid ha
  have F22 := Lib.hid (F21.out.ext hb22)
  have B22 := Lib.hid (B21.out.trans (hb22.mono B21.out.size))
  have hqk22 : q < w21.heap.size := F21.out.lt
  have F23 := Lib.hid (F22.out.store c a)
  have B23 := Lib.hid (store_below B22.out hq5 (.int .i64 c) (.int .i64 a))
  have HI23 := Lib.hid ((HI21.out.ext hb22).store F22.out (.int .i64 c) (.int .i64 a))
  have HV23 := Lib.hid (wown_fault (HW21.out.ext hb22) hqk21 (.int .i64 c) (.int .i64 a))
  have HU23 := Lib.hid (wown_fault HW22.out hqk22 (.int .i64 c) (.int .i64 a))
  obtain ⟨x0, x1, x2, x3⟩ := F22.out.cells
  obtain ⟨w23, hw23⟩ : ∃ w23, (w22.setCell ⟨q, 0, none⟩ (.int .i64 c)).setCell ⟨q, 1, none⟩ (.int .i64 a) = w23 := ⟨_, rfl⟩
  rw [hw23] at F23 B23 HI23 HV23 HU23
  have HW23 := Lib.hid hw23
  clear hb22 hc ha hw23 HI21 HW21 HW22 F21 B21
  go_upto_region 21 with fail
  rw [HW23.out]
  clear x0 x1 x2 x3 F22 B22
  obtain ⟨x0, x1, _, _⟩ := F23.out.cells
  have C := Lib.hid (faulted3_any (E := E) (HE5.out.ext B23.out).1.1.1 HI23.out c a)
  rw [faulted_same _ _ _ HC.out HAA.out] at C
  go_wp2_with fail
  refine C.out.mono ?_
  clear C x0 x1
  rintro e w24 ⟨rfl, hb24⟩
  have F24 := Lib.hid (F23.out.ext hb24)
  have B24 := Lib.hid (B23.out.trans (hb24.mono B23.out.size))
  have C := Lib.hid (sameWants_any (WOwn.ext HV23.out hb24).row (WOwn.ext HU23.out hb24).row hrl)
  rw [decide_eq_true rfl] at C
  clear hrl hb24 HI23 HV23 HU23 F23 B23 HC HAA
  go_wp2_with fail
  refine C.out.mono ?_
  clear C
  rintro e w25 ⟨rfl, hb25⟩
  have F25 := Lib.hid (F24.out.ext hb25)
  have B25 := Lib.hid (B24.out.trans (hb25.mono B24.out.size))
  clear hb25 F24 B24
  have C := Lib.hid (ownWants_any (.slice bo m.length bc) m w25 (by omega) (HBB.out.ext B25.out))
  go_wp2_with fail
  refine C.out.mono ?_
  clear C
  rintro e w26 ⟨⟨ob, rfl, HOB⟩, hb26⟩
  have F26 := Lib.hid (F25.out.ext hb26)
  have B26 := Lib.hid (B25.out.trans (hb26.mono B25.out.size))
  clear hb26 F25 B25
  have C := Lib.hid (lockDiff_any (E := E) ov ob l m w26 (HOV.out.ext B26.out) HOB.out.arg (by omega) (by omega) HSL.out HSM.out (HE5.out.ext B26.out).1.1)
  go_wp2_with fail
  refine C.out.mono ?_
  clear C
  rintro e w27 ⟨⟨v27, ev27, rfl, HI27, HW27⟩, hb27⟩
  have F27 := Lib.hid (F26.out.ext hb27)
  have B27 := Lib.hid (B26.out.trans (hb27.mono B26.out.size))
  have hqk27 : q < w26.heap.size := F26.out.lt
  clear hb27 F26
  have C := Lib.hid (refDiff_any (.slice ao l.length ac) (.slice bo m.length bc) l m w27 (HAX.out.ext B27.out).1 (HBB.out.ext B27.out).1 (by omega) (by omega) HSL.out HSM.out)
  go_wp2_with fail
  refine C.out.mono ?_
  clear C
  rintro e w28 ⟨⟨v28, rfl, HW28⟩, hb28⟩
  have hrl : ((diffLk l m).2.map dS).length ≤ 1000000 := by rw [List.length_map]; exact Nat.le_trans (diffLk_len l m) (by omega)
  obtain ⟨r, hr⟩ : ∃ r, diffLk l m = r := ⟨_, rfl⟩
  rw [hr] at HI27 HW27 HW28 hrl ⊢
  clear hr
  obtain ⟨c, hc⟩ : ∃ c : Int, (r.1.code : Int) = c := ⟨_, rfl⟩
  obtain ⟨a, ha⟩ : ∃ a : Int, r.1.at?.getD (-1) = a := ⟨_, rfl⟩
  rw [show erA r.1 = #[.int .i64 c, .int .i64 a] by unfold erA; rw [hc, ha]]
  have HC := Lib.hid hc
  have HAA := Lib.hid ha
  have F28 := Lib.hid (F27.out.ext hb28)
  have B28 := Lib.hid (B27.out.trans (hb28.mono B27.out.size))
  have hqk28 : q < w27.heap.size := F27.out.lt
  have F29 := Lib.hid (F28.out.store c a)
  have B29 := Lib.hid (store_below B28.out hq5 (.int .i64 c) (.int .i64 a))
  have HI29 := Lib.hid ((HI27.out.ext hb28).store F28.out (.int .i64 c) (.int .i64 a))
  have HV29 : Hid (SOwn ((w28.setCell ⟨q, 0, none⟩ (.int .i64 c)).setCell ⟨q, 1, none⟩ (.int .i64 a)) w26.heap.size v27 (r.2.map dS)) := ownsRow_setCell_below (ownsRow_setCell_below (owns_below HW27.out hb28) (a := ⟨q, 0, none⟩) hqk27 _) (a := ⟨q, 1, none⟩) hqk27 _
  have HU29 : Hid (SOwn ((w28.setCell ⟨q, 0, none⟩ (.int .i64 c)).setCell ⟨q, 1, none⟩ (.int .i64 a)) w27.heap.size v28 (r.2.map dS)) := ownsRow_setCell_below (ownsRow_setCell_below HW28.out (a := ⟨q, 0, none⟩) hqk28 _) (a := ⟨q, 1, none⟩) hqk28 _
  obtain ⟨x0, x1, x2, x3⟩ := F28.out.cells
  obtain ⟨w29, hw29⟩ : ∃ w29, (w28.setCell ⟨q, 0, none⟩ (.int .i64 c)).setCell ⟨q, 1, none⟩ (.int .i64 a) = w29 := ⟨_, rfl⟩
  rw [hw29] at F29 B29 HI29 HV29 HU29
  have HW29 := Lib.hid hw29
  clear hb28 hc ha hw29 HI27 HW27 HW28 F27 B27
  go_upto_region 25 with fail
  rw [HW29.out]
  clear x0 x1 x2 x3 F28 B28
  obtain ⟨x0, x1, _, _⟩ := F29.out.cells
  have C := Lib.hid (faulted3_any (E := E) (HE5.out.ext B29.out).1.1.1 HI29.out c a)
  rw [faulted_same _ _ _ HC.out HAA.out] at C
  go_wp2_with fail
  refine C.out.mono ?_
  clear C x0 x1
  rintro e w30 ⟨rfl, hb30⟩
  have B30 := Lib.hid (B29.out.trans (hb30.mono B29.out.size))
  have C := Lib.hid (sameTexts_same (texts_row (SOwn.keep HV29.out hb30)) (texts_row (SOwn.keep HU29.out hb30)) rfl hrl)
  clear HV29 HU29 HI29 hb30 F29
  go_wp2_with fail
  refine C.out.mono ?_
  clear C
  rintro e w31 ⟨rfl, hb31⟩
  have B31 := Lib.hid (B30.out.trans (hb31.mono B30.out.size))
  clear hb31 B30 B29
  have C := Lib.hid (lockFind_any ov l n w31 (HOV.out.ext B31.out).1 (by omega))
  go_wp2_with fail
  refine C.out.mono ?_
  clear C
  rintro e w32 ⟨rfl, hb32⟩
  have B32 := Lib.hid (B31.out.trans (hb32.mono B31.out.size))
  clear hb32 B31
  have C := Lib.hid (refFindWant_any (.slice ao l.length ac) l n w32 (HAX.out.ext B32.out).1 (by omega))
  obtain ⟨fi, hfi⟩ : ∃ fi : Int, findI (findW n l) = fi := ⟨_, rfl⟩
  unfold WantIxPost at C
  rw [hfi] at C ⊢
  clear hfi
  go_wp2_with fail
  refine C.out.mono ?_
  clear C
  rintro e w33 ⟨rfl, hb33⟩
  have B33 := Lib.hid (B32.out.trans (hb33.mono B32.out.size))
  clear hb33 B32
  have hff : (fi == fi) = true := beq_self_eq_true _
  have C := Lib.hid (sameWants_any (HOV.out.ext B33.out).1 (HAX.out.ext B33.out).1 (by omega))
  rw [decide_eq_true rfl] at C
  go_wp2_with fail
  refine C.out.mono ?_
  clear C
  rintro e w34 ⟨rfl, hb34⟩
  have B34 := Lib.hid (B33.out.trans (hb34.mono B33.out.size))
  go_wp2_with fail
  go_ret
  exact ⟨rfl, BW0.out.trans (B34.out.mono BW0.out.size)⟩
end Go.Proofs.YtgchgdkpipanjaaGreatDoor
