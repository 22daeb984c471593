/- chandlerylaw3.FetchRight: the walk. -/
import Derived.Test.YtomceddfbfpjjaaGreatDoorJFetches
import Derived.Test.YtomceddfbfpjjaaGreatDoorJFetchPlains
import Derived.Test.YtomceddfbfpjjaaGreatDoorJHeldEnds
import Derived.Test.YtomceddfbfpjjaaGreatDoorJTreeFew
namespace Go.Proofs.YtomceddfbfpjjaaGreatDoor
open Go Go.RowKit

theorem rnet_at (w : World) (B : Nat) (hB : B ≤ w.heap.size) : RNetIs (w.alloc (.cells #[.slice none 0 0, .slice none 0 0, .int .i64 0] 37)) B w.heap.size ⟨[], [], 0⟩ :=
  ⟨.slice none 0 0, .slice none 0 0, hB, heap_alloc_new _ _, World.ownsRow_nil _ _ _ _, World.ownsRow_nil _ _ _ _⟩
theorem FetchFrame.files {nb hb Bn Bh base : Nat} {w w' : World} {v : Value} {l : List FileB} (h : FetchFrame nb hb Bn Bh w w') (hn : FOwn w base v l) : FOwn w' base v l := by
  obtain ⟨w5, h1, h2⟩ := h
  exact h2.toKeeps.owns (h1.toKeeps.owns hn kn_file) heldRow_files
theorem int_own (w : World) (s : Int) : IOwn (w.alloc (.cells #[.int .i64 s] 3)) w.heap.size (.slice (some ⟨w.heap.size, 0, none⟩) 1 1) [s] := World.ownsRow_lit w #[.int .i64 s] 1 (Nat.le_refl _) (by decide) rfl

set_option maxHeartbeats 8000000 in
set_option maxRecDepth 100000 in
theorem fetchRight_walk {E : Nat → Addr} {w : World} (hE : FtEnv E w) (va vr : Value) (l : List ActB) (rs : List RuleB) (x : WantB) (hva : ARow w va l) (hvr : RulesRow w vr rs) :
    Calls Tryz.prog 4 #[va, vr, .agg #[.string x.name, .string x.url, .string x.kind, .int .i64 x.strip, .int .i64 x.sum]] w fun e w' => e = .returned (.bool true) ∧ Below w.heap.size w w' := by
  obtain ⟨px, hpx⟩ : ∃ px, w.heap.size = px := ⟨_, rfl⟩
  obtain ⟨wx, hwx⟩ : ∃ wx, w.alloc (.cells #[.string x.name, .string x.url, .string x.kind, .int .i64 x.strip, .int .i64 x.sum] 25) = wx := ⟨_, rfl⟩
  have hbx : Below w.heap.size w wx := by rw [← hwx]; exact (Below.refl _ _).alloc (Nat.le_refl _) _
  have BX := Lib.hid (show WBox wx px x by rw [← hwx, ← hpx]; exact WBox.new w x)
  have HB := Lib.hid hbx
  have HE := Lib.hid hE
  have HAv := Lib.hid hva
  have HRv := Lib.hid hvr
  have HWX := Lib.hid hwx
  have HPX := Lib.hid hpx
  have C := Lib.hid (fetched_any wx (hE.ext hbx))
  obtain ⟨ao, cap, rfl, h1, h2, H3⟩ := id hva
  have HM := Lib.hid H3
  clear H3 hE hva hvr hpx hwx hbx
  go_enter Tryz.func4, Tryz.ntmps4
  go_upto_region 1 with fail
  rw [HWX.out, HPX.out]
  go_wp2_with fail
  refine C.out.mono ?_
  clear C
  rintro e w1 ⟨rfl, hb1⟩
  have B1 := Lib.hid (HB.out.trans (hb1.mono HB.out.size))
  have BX1 := Lib.hid (BX.out.ext hb1)
  have C := Lib.hid (longActs_any _ l 40 w1 (by decide) (HAv.out.ext B1.out))
  clear hb1 BX
  go_wp2_with fail
  refine C.out.mono ?_
  clear C
  rintro e w2 ⟨⟨rfl, hl, HS⟩ | rfl, rfl⟩
  rotate_left
  · go_wp2_with fail
    go_ret
    exact ⟨rfl, B1.out⟩
  obtain ⟨c0, c1, c2, c3, c4⟩ := BX1.out.cells
  have C := Lib.hid (longAsk_any vr rs x w2 (HRv.out.ext B1.out))
  go_wp2_with fail
  refine C.out.mono ?_
  clear C c0 c1 c2 c3 c4
  intro e w3 hpost
  unfold LAskPost at hpost
  obtain ⟨⟨r, rfl, HL⟩, hb3⟩ := hpost
  have B3 := Lib.hid (B1.out.trans (hb3.mono B1.out.size))
  have BX3 := Lib.hid (BX1.out.ext hb3)
  clear hb3 B1 BX1
  cases r with
  | true =>
    go_wp2_with fail
    go_ret
    exact ⟨rfl, B3.out⟩
  | false =>
  obtain ⟨hl12, hsm, hask⟩ := HL.out rfl
  have HSM := Lib.hid hsm
  have HAS := Lib.hid hask
  have C := Lib.hid (netNew_any w3)
  clear HL hsm hask
  go_wp2_with fail
  refine C.out.mono ?_
  clear C
  rintro e w4 ⟨b, rfl, HN4, hb4⟩
  obtain ⟨B, hB⟩ : ∃ B, w3.heap.size = B := ⟨_, rfl⟩
  rw [hB] at HN4
  have hpB : px < B := by rw [← hB]; exact BX3.out.lt
  have hwB : w.heap.size ≤ B := by rw [← hB]; exact B3.out.size
  have hb4B : Below B w3 w4 := by rw [← hB]; exact hb4
  have HEB : Hid (∀ W, Below B w3 W → FtEnv E W) := fun W hW => HE.out.ext (B3.out.trans (hW.mono hwB))
  have HG : Hid (∀ k, k < 13 → gE k < B) := fun k hk => by have := gE_lt (HE.out.ext B3.out).env k hk; rw [hB] at this; exact this
  have C := Lib.hid (heldNew_any 5 w4)
  have HN4h := Lib.hid HN4
  clear hb4 HN4
  go_wp2_with fail
  refine C.out.mono ?_
  clear C
  rintro e w5 ⟨hb, rfl, HH5, hb5⟩
  obtain ⟨Bh, hBh⟩ : ∃ Bh, w4.heap.size = Bh := ⟨_, rfl⟩
  rw [hBh] at HH5
  have hnl := HN4h.out.lt
  have hhl := HH5.le
  have hap : b + 2 ≤ hb := by omega
  have hBBh : B ≤ Bh := by rw [← hBh]; exact below_size hb4B (by rw [hB]; exact Nat.le_refl _)
  have HN5 := HN4h.out.below hb5
  have hR6 := rnet_at w5 B (Nat.le_trans hBBh (by rw [← hBh]; exact hb5.size))
  have hal : Below w5.heap.size w5 (w5.alloc (.cells #[.slice none 0 0, .slice none 0 0, .int .i64 0] 37)) := (Below.refl _ _).alloc (Nat.le_refl _) _
  have HN6 := HN5.below hal
  have HH6 := HH5.below hal
  have hb6 : Below B w3 (w5.alloc (.cells #[.slice none 0 0, .slice none 0 0, .int .i64 0] 37)) := (hb4B.trans (hb5.mono (by rw [hBh]; exact hBBh))).trans (hal.mono (Nat.le_trans hBBh (by rw [← hBh]; exact hb5.size)))
  have hBh6 : Bh ≤ (w5.alloc (.cells #[.slice none 0 0, .slice none 0 0, .int .i64 0] 37)).heap.size := Nat.le_trans (by rw [← hBh]; exact hb5.size) hal.size
  obtain ⟨m, hm⟩ : ∃ m, w5.heap.size = m := ⟨_, rfl⟩
  obtain ⟨w6, hw6⟩ : ∃ w6, w5.alloc (.cells #[.slice none 0 0, .slice none 0 0, .int .i64 0] 37) = w6 := ⟨_, rfl⟩
  rw [hw6] at hR6 HN6 hb6 HH6 hBh6
  rw [hm] at hR6
  have HW6 := Lib.hid hw6
  have HMm := Lib.hid hm
  clear hal HN5 hb5 HN4h hb4B hnl hhl hm hB hBh hw6 HH5
  go_upto_region 9 with fail
  rw [HW6.out, HMm.out]
  go_wp2_with fail
  clear HW6 HMm
  go_loopw [11] (fun i wr => ∃ (k : Nat) (n : NetB), k ≤ l.length ∧ i = .int .i64 k ∧ n.off.length ≤ k ∧ Hid (NetIs wr B b n k) ∧ Hid (RNetIs wr B m n) ∧ Hid (HeldIs wr Bh hb (newH 5)) ∧ Bh ≤ wr.heap.size ∧ Below B w3 wr) (fun i _ => l.length - (intOf i).toNat)
  case atStart => exact ⟨0, _, Nat.zero_le _, rfl, Nat.le_refl _, HN6, hR6, HH6, hBh6, hb6⟩
  case round =>
    clear HN6 hR6 HH6 hBh6 hb6
    obtain ⟨k, n, hk, rfl, ho, HN, HR, HH, hBhr, hbr⟩ := hrel
    have hBr : B ≤ wr.heap.size := Nat.le_trans hBBh hBhr
    have hbw := B3.out.trans (hbr.mono hwB)
    have HBW := Lib.hid hbw
    by_cases hlt : k < l.length
    · obtain ⟨ab, aoff, rfl, habl, hcell⟩ := HM.out k hlt
      obtain ⟨q0, q1, q2, q3, q4, q5, q6⟩ := hcell k hlt
      have hsm := HS.out k hlt
      rw [← hbw.cell (p := ⟨ab, aoff + k * 5, none⟩) habl] at q0
      rw [← hbw.cell (p := ⟨ab, aoff + k * 5 + 1, none⟩) habl] at q1
      rw [← hbw.cell (p := ⟨ab, aoff + k * 5 + 2, none⟩) habl] at q2
      rw [← hbw.cell (p := ⟨ab, aoff + k * 5 + 3, none⟩) habl] at q3
      rw [← hbw.cell (p := ⟨ab, aoff + k * 5 + 4, none⟩) habl] at q4
      clear hcell
      obtain ⟨a, ha⟩ : ∃ a, l[k] = a := ⟨_, rfl⟩
      rw [ha] at q0 q1 q2 q3 q4 q5 q6 hsm
      clear ha
      have C := Lib.hid (do_any B b m k n a wr HN.out HR.out (by omega) (by omega) (by have := hsm.1; omega) (by rcases hsm.2 with h | h <;> omega) ⟨q5, q6⟩ hBr (fun W hW => (HEB.out W (hbr.trans hW)).net) HG.out)
      have HO := Lib.hid (stepN_off n a)
      clear HN HR hsm q5 q6 hbw
      go_wp2_with fail
      refine C.out.mono ?_
      clear C
      rintro e w7 ⟨rfl, HN7, HR7, HK7⟩
      have hb7 := hbr.trans HK7.below
      have hN7 := Lib.hid HN7
      have hR7 := Lib.hid HR7
      have hH7 := Lib.hid (HH.out.betw HK7 hap)
      have hO7 := HO.out
      have hB7 := Nat.le_trans hBhr HK7.below.size
      clear HN7 HR7 HK7 HO HH q0 q1 q2 q3 q4
      go_wp2_with fail
      go_roundw
      case rel => exact ⟨k + 1, stepN n a, by omega, by go_num, by omega, hN7, hR7, hH7, hB7, hb7⟩
      case measure => simp [intOf]; omega
    · obtain rfl : k = l.length := by omega
      have BXr := Lib.hid (show WBox wr px x from (hbr.block px hpB).trans BX3.out)
      obtain ⟨c0, c1, c2, c3, c4⟩ := BXr.out.cells
      have C := fetch_any B b Bh hb l.length n (newH 5) vr rs x wr HN.out HH.out hap hBBh (by omega) (by omega) HSM.out HAS.out (HRv.out.ext hbw) hBhr (fun W hW => HEB.out W (hbr.trans hW)) HG.out
      have HFN := Lib.hid (@fetch_new n (rs.map ruleOf) x)
      have HFA := Lib.hid (@fetchF_bad (newH 5) n (rs.map ruleOf) x)
      obtain ⟨r1, hr1⟩ : ∃ r1, fetchF (newH 5) n (rs.map ruleOf) x = r1 := ⟨_, rfl⟩
      rw [hr1] at C HFN HFA
      obtain ⟨er, fs, ls, hd1, n1⟩ := r1
      unfold FetchPost at C
      dsimp only at C HFN HFA
      have HC := Lib.hid C
      clear C hr1 HN HR HH hbw
      go_wp2_with fail
      refine HC.out.mono ?_
      clear HC c0 c1 c2 c3 c4
      rintro e w7 ⟨fv, lv, ev, zs, rfl, HI, HF, HT, HZ, HH7, HN7, HFR⟩
      have hb7 : Below B w3 w7 := hbr.trans (HFR.out.below hBBh)
      have HB7 := Lib.hid (B3.out.trans (hb7.mono hwB))
      have hBh7 : Bh ≤ w7.heap.size := Nat.le_trans hBhr (HFR.out.below hBBh).size
      by_cases hz : er.code = 0
      rotate_left
      · obtain ⟨hf0, hh0⟩ := HFA.out hz
        subst hf0 hh0
        obtain ⟨ty, y, rfl⟩ := HI.out.some_inv hz
        obtain ⟨fo, fc, rfl⟩ := HF.out.shape
        have C := Lib.hid (heldSums_any Bh hb (newH 5) w7 HH7.out)
        clear hz HFN HFA
        go_wp2_with fail
        refine C.out.mono ?_
        clear C
        rintro e w8 ⟨⟨ov, rfl, HO⟩, hb8⟩
        obtain ⟨oo, oc, rfl⟩ := HO.out.shape
        rw [show (newH 5).sums.length = 0 from rfl]
        go_wp2_with fail
        go_ret
        exact ⟨rfl, HB7.out.trans (hb8.mono HB7.out.size)⟩
      · obtain ⟨hr, ha0, hte, hts, hlne⟩ := HFN.out hz
        obtain ⟨T, hT⟩ : ∃ T, tryF n (rs.map ruleOf) x = T := ⟨_, rfl⟩
        rw [hT] at hr hte hts hlne
        obtain ⟨te, tf, tl, tn⟩ := T
        simp only [Prod.mk.injEq] at hr hte hts hlne
        obtain ⟨rfl, rfl, rfl, rfl, rfl⟩ := hr
        obtain rfl : ev = .nilIface := HI.out.zero rfl
        have hrl := right_len hte
        have HEW := Lib.hid (HEB.out w7 hb7)
        have C := packSum_any fv fs w7 HF.out.row hrl.1 hrl.2 HEW.out.1.1
        unfold PSumPost at C
        rw [show ((sumL (packT fs) : Nat) : Int) = x.sum from hts] at C
        have HC := Lib.hid C
        have HTE := Lib.hid hte
        have HA0 := Lib.hid ha0
        have hfl : fs.length ≤ 1000000 := by have := hrl.1; omega
        have hzne : ((zs.length : Int) == 0) = false := by
          rw [beq_eq_false_iff_ne]
          intro e
          have e2 : zs.length = 0 := by omega
          have e3 := List.eq_nil_of_length_eq_zero e2
          apply hlne
          rw [← HZ.out.1, e3]
          rfl
        have hq0 : (x.sum != x.sum) = false := by simp
        obtain ⟨lo, lc, rfl⟩ := HT.out.shape
        clear C hT hz hts hlne hrl HFN HFA hte ha0 HI
        go_wp2_with fail
        refine HC.out.mono ?_
        clear HC
        rintro e w8 ⟨⟨ev, rfl, HI⟩, hb8⟩
        obtain rfl : ev = .nilIface := HI.out.zero HTE.out
        have hb8B : Below B w3 w8 := hb7.trans (hb8.mono (Nat.le_trans hBBh hBh7))
        have HB8 := Lib.hid (B3.out.trans (hb8B.mono hwB))
        have BX8 := Lib.hid (show WBox w8 px x from (hb8B.block px hpB).trans BX3.out)
        have HF8 := Lib.hid (HF.out.ext hb8)
        have HN8 := Lib.hid (HN7.out.below hb8)
        have HH8 := Lib.hid (HH7.out.below hb8)
        have hBh8 : Bh ≤ w8.heap.size := Nat.le_trans hBh7 hb8.size
        obtain ⟨_, _, _, _, c4⟩ := BX8.out.cells
        have C := Lib.hid (heldSums_any Bh hb ⟨5, [(x.sum, fs)]⟩ w8 HH8.out)
        clear HI hb8 HN7 HH7 HF HT
        go_wp2_with fail
        refine C.out.mono ?_
        clear C
        rintro e w9 ⟨⟨ov, rfl, HO⟩, hb9⟩
        obtain ⟨oo, oc, rfl⟩ := HO.out.shape
        have hal9 : Below w9.heap.size w9 (w9.alloc (.cells #[.int .i64 x.sum] 3)) := (Below.refl _ _).alloc (Nat.le_refl _) _
        have C := sameInts_any (HO.out.ext hal9).row (int_own w9 x.sum).row
        rw [show decide ((⟨5, [(x.sum, fs)]⟩ : HeldB).sums = [x.sum]) = true from decide_eq_true rfl] at C
        have HC := Lib.hid C
        have hb89 := hb9.trans (hal9.mono hb9.size)
        have HAL := Lib.hid hb89
        have hb9B : Below B w3 w9 := hb8B.trans (hb9.mono (Nat.le_trans hBBh hBh8))
        have BX9 : WBox w9 px x := (hb9B.block px hpB).trans BX3.out
        obtain ⟨_, _, _, _, c4'⟩ := BX9.cells
        rw [show (⟨5, [(x.sum, fs)]⟩ : HeldB).sums.length = 1 from rfl] at HC ⊢
        clear C hal9 HO hb9 hb89 BX9
        go_wp2_with fail
        refine HC.out.mono ?_
        clear HC c4 c4'
        rintro e w10 ⟨rfl, hb10⟩
        have hb810 := HAL.out.trans (hb10.mono HAL.out.size)
        have hb10B : Below B w3 w10 := hb8B.trans (hb810.mono (Nat.le_trans hBBh hBh8))
        have HB10 := Lib.hid (B3.out.trans (hb10B.mono hwB))
        have BX10 := Lib.hid (show WBox w10 px x from (hb10B.block px hpB).trans BX3.out)
        have HF10 := Lib.hid (HF8.out.ext hb810)
        have HN10 := Lib.hid (HN8.out.below hb810)
        have HH10 := Lib.hid (HH8.out.below hb810)
        have hBh10 : Bh ≤ w10.heap.size := Nat.le_trans hBh8 hb810.size
        have C := Lib.hid (netCalls_any B b (l.length + 20) n1 w10 HN10.out)
        clear hb10 hb810 HF8 HN8 HH8 HAL hq0 hzne
        go_wp2_with fail
        refine C.out.mono ?_
        clear C
        rintro e w11 ⟨rfl, rfl⟩
        obtain ⟨c0, c1, c2, c3, c4⟩ := BX10.out.cells
        have C := fetch_any B b Bh hb (l.length + 20) n1 ⟨5, [(x.sum, fs)]⟩ vr rs x w11 HN10.out HH10.out hap hBBh (by omega) (by omega) HSM.out HAS.out (HRv.out.ext HB10.out) hBh10 (fun W hW => HEB.out W (hb10B.trans hW)) HG.out
        rw [fetch_again HA0.out] at C
        unfold FetchPost at C
        dsimp only at C
        have HC := Lib.hid C
        clear C
        go_wp2_with fail
        refine HC.out.mono ?_
        clear HC c0 c1 c2 c3 c4
        rintro e w12 ⟨fv2, lv2, ev2, zs2, rfl, HI2, HF2, HT2, HZ2, _, HN12, HFR2⟩
        obtain rfl : ev2 = .nilIface := HI2.out.zero rfl
        have hb12B : Below B w3 w12 := hb10B.trans (HFR2.out.below hBBh)
        have HB12 := Lib.hid (B3.out.trans (hb12B.mono hwB))
        have HF12 := Lib.hid (HFR2.out.files HF10.out)
        have C := treeSame_any HF12.out.row HF2.out.row hfl
        rw [show decide (fs = fs) = true from decide_eq_true rfl] at C
        have HC := Lib.hid C
        clear C HI2 HF10 HN10 HH10
        go_wp2_with fail
        refine HC.out.mono ?_
        clear HC
        rintro e w13 ⟨rfl, hb13⟩
        have HB13 := Lib.hid (HB12.out.trans (hb13.mono HB12.out.size))
        have HN13 := Lib.hid (HN12.out.below hb13)
        have HT13 := Lib.hid (HT2.out.ext hb13)
        have C := Lib.hid (netCalls_any B b (l.length + 20 + 20) n1 w13 HN13.out)
        clear hb13 HN12 HT2
        go_wp2_with fail
        refine C.out.mono ?_
        clear C
        rintro e w14 ⟨rfl, rfl⟩
        have hqc : ((n1.calls : Int) == (n1.calls : Int)) = true := beq_self_eq_true _
        have hal14 : Below w14.heap.size w14 (w14.alloc (.cells #[.string ⟨#[104, 101, 108, 100]⟩] 9)) := (Below.refl _ _).alloc (Nat.le_refl _) _
        have C := Lib.hid (sameTexts_same (HT13.out.ext hal14).row (TOwn.row (zs := [⟨#[104, 101, 108, 100]⟩]) (World.ownsRow_lit (base := 0) (e := 9) (size := 1) w14 #[.string ⟨#[104, 101, 108, 100]⟩] 1 (Nat.zero_le _) (by decide) rfl)) (by rw [HZ2.out.1]; rfl) (by have := HZ2.out.2; omega))
        have HAL := Lib.hid hal14
        obtain ⟨lo2, lc2, rfl⟩ := HT13.out.shape
        clear hal14 HT13
        go_wp2_with fail
        refine C.out.mono ?_
        clear C
        rintro e w15 ⟨rfl, hb15⟩
        go_wp2_with fail
        go_ret
        exact ⟨rfl, HB13.out.trans ((HAL.out.trans (hb15.mono HAL.out.size)).mono HB13.out.size)⟩
end Go.Proofs.YtomceddfbfpjjaaGreatDoor
