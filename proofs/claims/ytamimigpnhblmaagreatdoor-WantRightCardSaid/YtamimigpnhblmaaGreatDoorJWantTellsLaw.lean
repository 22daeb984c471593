/- chandlerylaw2.WantTells: the walk. -/
import Derived.Test.YtamimigpnhblmaaGreatDoorJWanted
import Derived.Test.YtamimigpnhblmaaGreatDoorJRefWantsUp
import Derived.Test.YtamimigpnhblmaaGreatDoorJTold
import Derived.Test.YtamimigpnhblmaaGreatDoorJRefTreeUp
namespace Go.Proofs.YtamimigpnhblmaaGreatDoor
open Go Go.RowKit

theorem filesE_le : ∀ (l : List FileB) (ahead : List FileB) (i : Nat) {p : Nat × Nat}, filesE ahead i l = some p → p.2 ≤ 13
  | [], _, _, p, h => by cases h
  | f :: l, ahead, i, p, h => by
    unfold filesE at h
    split at h
    · exact filesE_le l _ _ h
    · obtain rfl := Option.some.inj h
      exact fileE_le _ _
theorem treeEr_le (l : List FileB) : (treeEr l).code ≤ 13 := by
  unfold treeEr
  split
  · exact Nat.le_of_ble_eq_true rfl
  · cases h : filesE [] 0 l with
    | none => dsimp only; split <;> exact Nat.le_of_ble_eq_true rfl
    | some p => exact filesE_le l _ _ h
theorem readEr_le (s : List UInt8) : (readEr s).code ≤ 13 := by
  unfold readEr
  split
  · exact Nat.le_of_ble_eq_true rfl
  · split
    · exact treeEr_le _
    · exact Nat.le_of_ble_eq_true rfl
theorem sortT_le (l : List FileB) : (sortT l).1.code ≤ 13 := by
  unfold sortT
  split
  · exact Nat.le_of_ble_eq_true rfl
  · split
    · exact treeEr_le _
    · exact Nat.le_of_ble_eq_true rfl
theorem stripTr_le (l : List FileB) (n : Int) : (stripTr l n).1.code ≤ 13 := by
  unfold stripTr
  split
  · exact treeEr_le _
  · cases stripIx n l with
    | none => exact sortT_le _
    | some i => exact stripE_le13 _ _
theorem unpackT_le (s : List UInt8) (n : Int) : (unpackT s n).1 ≤ 13 := by
  unfold unpackT
  split
  · exact readEr_le _
  · exact stripTr_le _ _
theorem openE_le (r : List (Nat × UInt8) × Option Nat) (most : Int) : (openE r most).code ≤ 13 := by
  unfold openE
  split
  · split <;> exact Nat.le_of_ble_eq_true rfl
  · exact Nat.le_of_ble_eq_true rfl
theorem openW_le (x : WantB) (s : ByteArray) : (openW x s).1 ≤ 13 := by
  unfold openW
  split
  · exact wantE_le x
  · split
    · exact Nat.le_of_ble_eq_true rfl
    · split
      · exact unpackT_le _ _
      · split
        · split
          · exact openE_le _ _
          · exact unpackT_le _ _
        · split
          · exact treeEr_le _
          · exact Nat.zero_le _
theorem rightW_le (x : WantB) (s : ByteArray) : (rightW x s).1 ≤ 13 := by
  unfold rightW
  split
  · exact openW_le x s
  · split <;> exact Nat.le_of_ble_eq_true rfl
theorem readW_le (s : List UInt8) : (readW s).1 ≤ 13 := by
  unfold readW
  split
  · exact Nat.le_of_ble_eq_true rfl
  · split
    · exact wantE_le _
    · exact Nat.zero_le _
theorem openW_few (x : WantB) (s : ByteArray) : (openW x s).2.length ≤ 30 := by
  by_cases h : (openW x s).1 = 0
  · exact (openW_ok h).few
  · rw [openW_bad h]; exact Nat.zero_le _
theorem rightW_few (x : WantB) (s : ByteArray) : (rightW x s).2.length ≤ 30 := by
  unfold rightW
  split
  · exact Nat.zero_le _
  · split
    · exact Nat.zero_le _
    · exact openW_few x s
theorem strs_eq {t u : ByteArray} {l : List UInt8} (h1 : bl t = l) (h2 : bl u = l) : t = u := bl_inj (by rw [h1, h2])

set_option maxHeartbeats 8000000 in
set_option maxRecDepth 100000 in
theorem wantTells_walk {E : Nat → Addr} {w : World} (hE : REnv E w) (x : WantB) (s text : ByteArray) :
    Calls Tryz.prog 4 #[.agg #[.string x.name, .string x.url, .string x.kind, .int .i64 x.strip, .int .i64 x.sum], .string s, .string text] w fun e w' => e = .returned (.bool true) ∧ Below w.heap.size w w' := by
  obtain ⟨px, hpx⟩ : ∃ px, w.heap.size = px := ⟨_, rfl⟩
  obtain ⟨wx, hwx⟩ : ∃ wx, w.alloc (.cells #[.string x.name, .string x.url, .string x.kind, .int .i64 x.strip, .int .i64 x.sum] 51) = wx := ⟨_, rfl⟩
  have hbx : Below w.heap.size w wx := by rw [← hwx]; exact (Below.refl _ _).alloc (Nat.le_refl _) _
  have BX := Lib.hid (show WBox wx px x by rw [← hwx, ← hpx]; exact WBox.new w x)
  have HB := Lib.hid hbx
  have HE := Lib.hid hE
  have HWX := Lib.hid hwx
  have HPX := Lib.hid hpx
  have mixed : Tryz.prog.follows .mixedOrders = true := by kernel_rfl
  have C := Lib.hid (wanted_any wx (hE.ext hbx))
  clear hpx hwx hbx hE
  go_enter Tryz.func4, Tryz.ntmps4
  go_upto_region 1 with fail
  rw [HWX.out, HPX.out]
  go_wp2_with fail
  refine C.out.mono ?_
  clear C
  rintro e w1 ⟨rfl, hb1⟩
  have B1 := Lib.hid (HB.out.trans (hb1.mono HB.out.size))
  have BX1 := Lib.hid (BX.out.ext hb1)
  clear hb1 BX
  obtain ⟨c0, c1, c2, c3, c4⟩ := BX1.out.cells
  go_upto_region 2 with fail
  go_cut [36] from 15 (fun v wv => ∃ bb : Bool, v = .bool bb ∧ Hid (bb = false → longW x = 0 ∧ s.size ≤ 200 ∧ text.size ≤ 20001) ∧ Hid (Below w1.heap.size w1 wv))
  case first => as_aux_lemma =>
    go_wp2_with fail
    refine (longWant_any x w1).mono ?_
    rintro e w2 ⟨rfl, hb2⟩
    obtain ⟨n, hnn⟩ : ∃ n, longW x = n := ⟨_, rfl⟩
    rw [hnn]
    have HN := Lib.hid hnn
    have HB2 := Lib.hid hb2
    clear hnn hb2
    by_cases hl : n = 0
    rotate_left
    · have hpos : (0 : Int) < (n : Int) := by omega
      clear hl
      go_wp2_with fail
      go_meet
      case rel => exact ⟨true, rfl, (fun h => by cases h), HB2⟩
    · subst hl
      rw [show ((0 : Nat) : Int) = 0 from rfl]
      by_cases hs : 200 < s.size
      · go_wp2_with fail
        go_meet
        case rel => exact ⟨true, rfl, (fun h => by cases h), HB2⟩
      · by_cases h2 : 2000 < text.size
        · by_cases h3 : text.size = 20001
          · have h4 : ((text.size : Int) == 20001) = true := by rw [beq_iff_eq]; omega
            go_wp2_with fail
            go_meet
            case rel => exact ⟨_, rfl, (fun _ => ⟨HN.out, by omega, by omega⟩), HB2⟩
          · have h4 : ((text.size : Int) != 20001) = true := by rw [bne_iff_ne]; omega
            go_wp2_with fail
            go_meet
            case rel => exact ⟨_, rfl, (fun h => by simp at h), HB2⟩
        · go_wp2_with fail
          go_meet
          case rel => exact ⟨_, rfl, (fun _ => ⟨HN.out, by omega, by omega⟩), HB2⟩
  case rest => as_aux_lemma =>
  rename World => w2
  obtain ⟨bb, rfl, HBB, HB2⟩ := hcut
  have B2 := Lib.hid (B1.out.trans (HB2.out.mono B1.out.size))
  have BX2 := Lib.hid (BX1.out.ext HB2.out)
  clear BX1 c0 c1 c2 c3 c4 HB2
  cases bb with
  | true =>
    go_wp2_with fail
    go_ret
    exact ⟨rfl, B2.out⟩
  | false =>
  obtain ⟨hl, hs2, ht⟩ := HBB.out rfl
  obtain ⟨sz0, sz1, sz2⟩ := longW_zero hl
  clear hl HBB
  have E2 := Lib.hid (HE.out.ext B2.out)
  have KEEP : Hid (∀ W, Below w2.heap.size w2 W → W.cell? ⟨px, 0, none⟩ = some (.string x.name) ∧ W.cell? ⟨px, 1, none⟩ = some (.string x.url) ∧ W.cell? ⟨px, 2, none⟩ = some (.string x.kind) ∧ W.cell? ⟨px, 3, none⟩ = some (.int .i64 x.strip) ∧ W.cell? ⟨px, 4, none⟩ = some (.int .i64 x.sum)) := fun W hW => (BX2.out.ext hW).cells
  have HC1 : Hid (∀ W, Below w2.heap.size w2 W → Calls Tryz.prog 29 #[.agg #[.string x.name, .string x.url, .string x.kind, .int .i64 x.strip, .int .i64 x.sum]] W fun e w' => e = .returned (errV E (wantE x)) ∧ Below w2.heap.size w2 w') := fun W hW => by
    refine (wantCheck_any x W (by omega) (by omega) (E2.out.ext hW).1.1).mono ?_
    rintro e w' ⟨h, hb⟩; exact ⟨h, hW.trans (hb.mono hW.size)⟩
  have HC2 : Hid (∀ W, Below w2.heap.size w2 W → Calls Tryz.prog 30 #[.agg #[.string x.name, .string x.url, .string x.kind, .int .i64 x.strip, .int .i64 x.sum]] W fun e w' => e = .returned (.int .i64 (wantE x)) ∧ Below w2.heap.size w2 w') := fun W hW => by
    refine (refWantError_any x W (by omega) (by omega)).mono ?_
    rintro e w' ⟨h, hb⟩; exact ⟨h, hW.trans (hb.mono hW.size)⟩
  have HC3 : Hid (∀ W, Below w2.heap.size w2 W → Calls Tryz.prog 28 #[errV E (wantE x), .int .i64 (wantE x)] W fun e w' => e = .returned (.bool true) ∧ Below w2.heap.size w2 w') := fun W hW => by
    refine (errCoded2 (E2.out.ext hW).1.1.1 (wantE_le x)).mono ?_
    rintro e w' ⟨h, hb⟩; exact ⟨h, hW.trans (hb.mono hW.size)⟩
  have HC4 : Hid (∀ W, Below w2.heap.size w2 W → Calls Tryz.prog 31 #[.agg #[.string x.name, .string x.url, .string x.kind, .int .i64 x.strip, .int .i64 x.sum]] W fun e w' => ∃ t : ByteArray, e = .returned (.string t) ∧ Hid (bl t = wantTx x) ∧ Below w2.heap.size w2 w') := fun W hW => by
    refine (wantText_any x W (by omega) (by omega) (by omega) (E2.out.ext hW).1).mono ?_
    rintro e w' ⟨⟨t, h, h2⟩, hb⟩; exact ⟨t, h, h2, hW.trans (hb.mono hW.size)⟩
  have HC5 : Hid (∀ W, Below w2.heap.size w2 W → Calls Tryz.prog 32 #[.agg #[.string x.name, .string x.url, .string x.kind, .int .i64 x.strip, .int .i64 x.sum]] W fun e w' => ∃ t : ByteArray, e = .returned (.string t) ∧ Hid (bl t = wantTx x) ∧ Below w2.heap.size w2 w') := fun W hW => by
    refine (refWantText_any x W (by omega) (by omega) (by omega)).mono ?_
    rintro e w' ⟨⟨t, h, h2⟩, hb⟩; exact ⟨t, h, h2, hW.trans (hb.mono hW.size)⟩
  obtain ⟨ev, hev⟩ : ∃ ev, errV E (wantE x) = ev := ⟨_, rfl⟩
  obtain ⟨en, hen⟩ : ∃ en : Int, (wantE x : Int) = en := ⟨_, rfl⟩
  rw [hev] at HC1 HC3
  rw [hen] at HC2 HC3
  clear hev hen
  obtain ⟨c0, c1, c2, c3, c4⟩ := KEEP.out w2 (Below.refl _ _)
  go_wp2_with fail
  go_region_held3 (fun W : World => W.cell? ⟨px, 0, none⟩ = some (.string x.name) ∧ W.cell? ⟨px, 1, none⟩ = some (.string x.url) ∧ W.cell? ⟨px, 2, none⟩ = some (.string x.kind) ∧ W.cell? ⟨px, 3, none⟩ = some (.int .i64 x.strip) ∧ W.cell? ⟨px, 4, none⟩ = some (.int .i64 x.sum)) (first | go_keep | exact KEEP.out _ hb5 | exact KEEP.out _ hb6 | exact KEEP.out _ hb7 | exact KEEP.out _ hb8 | exact KEEP.out _ hb9)
    (first
      | (go_at_call 29; refine (HC1.out _ (Below.refl _ _).drew).mono ?_; rintro e w5 ⟨rfl, hb5⟩)
      | (go_at_call 30; refine (HC2.out _ hb5).mono ?_; rintro e w6 ⟨rfl, hb6⟩)
      | (go_at_call 28; refine (HC3.out _ hb6).mono ?_; rintro e w7 ⟨rfl, hb7⟩)
      | (go_at_call 31; refine (HC4.out _ hb7).mono ?_; rintro e w8 ⟨t8, rfl, H8, hb8⟩)
      | (go_at_call 32; refine (HC5.out _ hb8).mono ?_; rintro e w9 ⟨t9, rfl, H9, hb9⟩; have q9 : (t8.toList == t9.toList) = true := by rw [strs_eq H8.out H9.out]; exact beq_self_eq_true _))
  have B9 := Lib.hid hb9
  clear hb5 hb6 hb7 hb8 hb9 H8 H9 HC1 HC2 HC3 HC4 HC5 c0 c1 c2 c3 c4
  obtain ⟨r, hr⟩ : ∃ r, readW (bl s) = r := ⟨_, rfl⟩
  have hr13 := readW_le (bl s)
  obtain ⟨rc, y⟩ := r
  have HR1 : Hid (∀ W, Below w2.heap.size w2 W → Calls Tryz.prog 33 #[.string s] W fun e w' => e = .returned (.tuple #[.agg #[.string y.name, .string y.url, .string y.kind, .int .i64 y.strip, .int .i64 y.sum], errV E rc]) ∧ Below W.heap.size W w') := fun W hW => by
    refine (wantRead_any s W (by omega) (E2.out.ext hW)).mono ?_
    rintro e w' ⟨h, hb⟩; rw [hr] at h; exact ⟨h, hb⟩
  have HR2 : Hid (∀ W, Below w2.heap.size w2 W → Calls Tryz.prog 34 #[.string s] W fun e w' => e = .returned (.tuple #[.agg #[.string y.name, .string y.url, .string y.kind, .int .i64 y.strip, .int .i64 y.sum], .int .i64 rc]) ∧ Below W.heap.size W w') := fun W hW => by
    refine (refReadWant_any s W (by omega)).mono ?_
    rintro e w' ⟨h, hb⟩; rw [hr] at h; exact ⟨h, hb⟩
  have HR3 : Hid (∀ W, Below w2.heap.size w2 W → Calls Tryz.prog 28 #[errV E rc, .int .i64 rc] W fun e w' => e = .returned (.bool true) ∧ Below W.heap.size W w') := fun W hW => by
    rw [hr] at hr13
    refine (errCoded2 (E2.out.ext hW).1.1.1 hr13).mono ?_
    rintro e w' ⟨h, hb⟩; exact ⟨h, hb⟩
  obtain ⟨rv, hrv⟩ : ∃ rv, errV E rc = rv := ⟨_, rfl⟩
  obtain ⟨rn, hrn⟩ : ∃ rn : Int, (rc : Int) = rn := ⟨_, rfl⟩
  rw [hrv] at HR1 HR3
  rw [hrn] at HR2 HR3
  clear hrv hrn hr hr13
  go_wp2_with fail
  refine (HR1.out _ B9.out).mono ?_
  rintro e wa ⟨rfl, hba⟩
  obtain ⟨pa, hpa⟩ : ∃ pa, wa.heap.size = pa := ⟨_, rfl⟩
  obtain ⟨wb, hwb⟩ : ∃ wb, wa.alloc (.cells #[.string y.name, .string y.url, .string y.kind, .int .i64 y.strip, .int .i64 y.sum] 51) = wb := ⟨_, rfl⟩
  have hbb : Below wa.heap.size wa wb := by rw [← hwb]; exact (Below.refl _ _).alloc (Nat.le_refl _) _
  have BA := Lib.hid (show WBox wb pa y by rw [← hwb, ← hpa]; exact WBox.new wa y)
  have Bb := Lib.hid (B9.out.trans ((hba.trans (hbb.mono hba.size)).mono B9.out.size))
  have HWb := Lib.hid hwb
  have HPa := Lib.hid hpa
  clear hba hbb hwb hpa B9
  go_upto_region 7 with fail
  rw [HWb.out, HPa.out]
  go_wp2_with fail
  refine (HR2.out _ Bb.out).mono ?_
  rintro e wc ⟨rfl, hbc⟩
  obtain ⟨pc, hpc⟩ : ∃ pc, wc.heap.size = pc := ⟨_, rfl⟩
  obtain ⟨wd, hwd⟩ : ∃ wd, wc.alloc (.cells #[.string y.name, .string y.url, .string y.kind, .int .i64 y.strip, .int .i64 y.sum] 51) = wd := ⟨_, rfl⟩
  have hbd : Below wc.heap.size wc wd := by rw [← hwd]; exact (Below.refl _ _).alloc (Nat.le_refl _) _
  have BC := Lib.hid (show WBox wd pc y by rw [← hwd, ← hpc]; exact WBox.new wc y)
  have BA2 := Lib.hid ((BA.out.ext hbc).ext hbd)
  have Bd := Lib.hid (Bb.out.trans ((hbc.trans (hbd.mono hbc.size)).mono Bb.out.size))
  have HWd := Lib.hid hwd
  have HPc := Lib.hid hpc
  clear hbc hbd hwd hpc Bb BA
  go_upto_region 8 with fail
  rw [HWd.out, HPc.out]
  go_wp2_with fail
  refine (HR3.out _ Bd.out).mono ?_
  rintro e we ⟨rfl, hbe⟩
  obtain ⟨a0, a1, a2, a3, a4⟩ := (BA2.out.ext hbe).cells
  obtain ⟨d0, d1, d2, d3, d4⟩ := (BC.out.ext hbe).cells
  have Be := Lib.hid (Bd.out.trans (hbe.mono Bd.out.size))
  have e0 : (y.name.toList == y.name.toList) = true := beq_self_eq_true _
  have e1 : (y.url.toList == y.url.toList) = true := beq_self_eq_true _
  have e2 : (y.kind.toList == y.kind.toList) = true := beq_self_eq_true _
  have e3 : (y.strip == y.strip) = true := beq_self_eq_true _
  have e4 : (y.sum == y.sum) = true := beq_self_eq_true _
  clear hbe HR1 HR2 HR3 BA2 BC Bd
  go_upto_region 10 with fail
  clear a0 a1 a2 a3 a4 d0 d1 d2 d3 d4 e0 e1 e2 e3 e4
  obtain ⟨r, hr⟩ : ∃ r, openW x text = r := ⟨_, rfl⟩
  have hr13 := openW_le x text
  have hrf := openW_few x text
  obtain ⟨rc, l⟩ := r
  rw [hr] at hr13 hrf
  have HO1 : Hid (∀ W, Below w2.heap.size w2 W → Calls Tryz.prog 35 #[.agg #[.string x.name, .string x.url, .string x.kind, .int .i64 x.strip, .int .i64 x.sum], .string text] W fun e w' => ∃ v, e = .returned (.tuple #[v, errV E rc]) ∧ Hid (FArg w' v l) ∧ Below W.heap.size W w') := fun W hW => by
    refine (wantOpen_any x text W (by omega) (by omega) (by omega) (E2.out.ext hW)).mono ?_
    rintro e w' ⟨⟨v, h, h2⟩, hb⟩; rw [hr] at h h2; exact ⟨v, h, h2, hb⟩
  have HO2 : Hid (∀ W, Below w2.heap.size w2 W → Calls Tryz.prog 36 #[.agg #[.string x.name, .string x.url, .string x.kind, .int .i64 x.strip, .int .i64 x.sum], .string text] W fun e w' => ∃ v, e = .returned (.tuple #[v, .int .i64 rc]) ∧ Hid (FArg w' v l) ∧ Below W.heap.size W w') := fun W hW => by
    refine (refOpenWant_any x text W (by omega) (by omega) (by omega)).mono ?_
    rintro e w' ⟨⟨v, h, h2⟩, hb⟩; rw [hr] at h h2; exact ⟨v, h, h2, hb⟩
  have HO3 : Hid (∀ W, Below w2.heap.size w2 W → Calls Tryz.prog 28 #[errV E rc, .int .i64 rc] W fun e w' => e = .returned (.bool true) ∧ Below W.heap.size W w') := fun W hW => by
    refine (errCoded2 (E2.out.ext hW).1.1.1 hr13).mono ?_
    rintro e w' ⟨h, hb⟩; exact ⟨h, hb⟩
  obtain ⟨rv, hrv⟩ : ∃ rv, errV E rc = rv := ⟨_, rfl⟩
  obtain ⟨rn, hrn⟩ : ∃ rn : Int, (rc : Int) = rn := ⟨_, rfl⟩
  rw [hrv] at HO1 HO3
  rw [hrn] at HO2 HO3
  clear hrv hrn hr hr13
  obtain ⟨c0, c1, c2, c3, c4⟩ := KEEP.out _ Be.out
  go_wp2_with fail
  refine (HO1.out _ Be.out).mono ?_
  rintro e wf ⟨v, rfl, HV, hbf⟩
  have Bf := Lib.hid (Be.out.trans (hbf.mono Be.out.size))
  clear c0 c1 c2 c3 c4 hbf
  obtain ⟨c0, c1, c2, c3, c4⟩ := KEEP.out _ Bf.out
  go_wp2_with fail
  refine (HO2.out _ Bf.out).mono ?_
  rintro e wg ⟨u, rfl, HU, hbg⟩
  have Bg := Lib.hid (Bf.out.trans (hbg.mono Bf.out.size))
  have HV2 := Lib.hid (HV.out.ext hbg)
  clear c0 c1 c2 c3 c4 hbg HV Bf
  go_wp2_with fail
  refine (HO3.out _ Bg.out).mono ?_
  rintro e wh ⟨rfl, hbh⟩
  have Bh := Lib.hid (Bg.out.trans (hbh.mono Bg.out.size))
  have HS := Lib.hid (sameTrees_any (HV2.out.ext hbh).1 (HU.out.ext hbh).1 (by omega))
  clear hbh Bg HV2 HU HO1 HO2 HO3
  go_wp2_with fail
  refine HS.out.mono ?_
  clear HS
  rintro e wi ⟨rfl, hbi⟩
  rw [show decide True = true from rfl]
  have Bi := Lib.hid (Bh.out.trans (hbi.mono Bh.out.size))
  clear hbi Bh hrf
  go_upto_region 14 with fail
  obtain ⟨r, hr⟩ : ∃ r, rightW x text = r := ⟨_, rfl⟩
  have hr13 := rightW_le x text
  have hrf := rightW_few x text
  obtain ⟨rc, l⟩ := r
  rw [hr] at hr13 hrf
  have HO1 : Hid (∀ W, Below w2.heap.size w2 W → Calls Tryz.prog 37 #[.agg #[.string x.name, .string x.url, .string x.kind, .int .i64 x.strip, .int .i64 x.sum], .string text] W fun e w' => ∃ v, e = .returned (.tuple #[v, errV E rc]) ∧ Hid (FArg w' v l) ∧ Below W.heap.size W w') := fun W hW => by
    refine (wantRight_any x text W (by omega) (by omega) (by omega) (E2.out.ext hW)).mono ?_
    rintro e w' ⟨⟨v, h, h2⟩, hb⟩; rw [hr] at h h2; exact ⟨v, h, h2, hb⟩
  have HO2 : Hid (∀ W, Below w2.heap.size w2 W → Calls Tryz.prog 38 #[.agg #[.string x.name, .string x.url, .string x.kind, .int .i64 x.strip, .int .i64 x.sum], .string text] W fun e w' => ∃ v, e = .returned (.tuple #[v, .int .i64 rc]) ∧ Hid (FArg w' v l) ∧ Below W.heap.size W w') := fun W hW => by
    refine (refRightWant_any x text W (by omega) (by omega) (by omega)).mono ?_
    rintro e w' ⟨⟨v, h, h2⟩, hb⟩; rw [hr] at h h2; exact ⟨v, h, h2, hb⟩
  have HO3 : Hid (∀ W, Below w2.heap.size w2 W → Calls Tryz.prog 28 #[errV E rc, .int .i64 rc] W fun e w' => e = .returned (.bool true) ∧ Below W.heap.size W w') := fun W hW => by
    refine (errCoded2 (E2.out.ext hW).1.1.1 hr13).mono ?_
    rintro e w' ⟨h, hb⟩; exact ⟨h, hb⟩
  obtain ⟨rv, hrv⟩ : ∃ rv, errV E rc = rv := ⟨_, rfl⟩
  obtain ⟨rn, hrn⟩ : ∃ rn : Int, (rc : Int) = rn := ⟨_, rfl⟩
  rw [hrv] at HO1 HO3
  rw [hrn] at HO2 HO3
  clear hrv hrn hr hr13
  obtain ⟨c0, c1, c2, c3, c4⟩ := KEEP.out _ Bi.out
  go_wp2_with fail
  refine (HO1.out _ Bi.out).mono ?_
  rintro e wf ⟨v, rfl, HV, hbf⟩
  have Bf := Lib.hid (Bi.out.trans (hbf.mono Bi.out.size))
  clear c0 c1 c2 c3 c4 hbf
  obtain ⟨c0, c1, c2, c3, c4⟩ := KEEP.out _ Bf.out
  go_wp2_with fail
  refine (HO2.out _ Bf.out).mono ?_
  rintro e wg ⟨u, rfl, HU, hbg⟩
  have Bg := Lib.hid (Bf.out.trans (hbg.mono Bf.out.size))
  have HV2 := Lib.hid (HV.out.ext hbg)
  clear c0 c1 c2 c3 c4 hbg HV Bf
  go_wp2_with fail
  refine (HO3.out _ Bg.out).mono ?_
  rintro e wh ⟨rfl, hbh⟩
  have Bh := Lib.hid (Bg.out.trans (hbh.mono Bg.out.size))
  have HS := Lib.hid (sameTrees_any (HV2.out.ext hbh).1 (HU.out.ext hbh).1 (by omega))
  clear hbh Bg HV2 HU HO1 HO2 HO3
  go_wp2_with fail
  refine HS.out.mono ?_
  clear HS
  rintro e wi ⟨rfl, hbi⟩
  rw [show decide True = true from rfl]
  have Bj := Lib.hid (Bh.out.trans (hbi.mono Bh.out.size))
  clear hbi Bh hrf
  go_wp2_with fail
  go_ret
  exact ⟨rfl, B2.out.trans (Bj.out.mono B2.out.size)⟩
end Go.Proofs.YtamimigpnhblmaaGreatDoor
