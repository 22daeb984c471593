/- chandlerylaw3.LockLoads: the walk. -/
import Derived.Test.YtgchgdkpipanjaaGreatDoorJLockedThree
import Derived.Test.YtgchgdkpipanjaaGreatDoorJLockHeldUp
import Derived.Test.YtgchgdkpipanjaaGreatDoorJTreesUp
import Derived.Test.YtgchgdkpipanjaaGreatDoorJHandedTrees
import Derived.Test.YtgchgdkpipanjaaGreatDoorJTreeFew
namespace Go.Proofs.YtgchgdkpipanjaaGreatDoor
open Go Go.RowKit Go.Maps

theorem heldRow_wants (cs : Array Value) : ¬ HeldRow (.cells cs 41 (0, 0)) := by
  rintro (⟨es, c, h⟩ | ⟨cs', fz, h⟩)
  · cases h
  · injection h with _ h _; exact absurd h (by decide)
theorem HeldIs.far {w : World} {B b : Nat} {h : HeldB} (hi : HeldIs w B b h) : B + 1 ≤ b := by
  obtain ⟨_, ov, mb, f, hA⟩ := hi
  have := hA.hm
  have := hA.hlt
  omega
def loadsUrl : ByteArray := ⟨#[104, 116, 116, 112, 58, 47, 47, 104, 47, 120]⟩
def loadsPack : ByteArray := ⟨#[112, 97, 99, 107]⟩
def loadsW (n : ByteArray) (s : Int) : WantB := ⟨n, loadsUrl, loadsPack, 0, s⟩
theorem loadsW_small {n : ByteArray} (s : Int) (h : n.size ≤ 30) : SmallW (loadsW n s) := ⟨by show n.size ≤ _; omega, by show 10 ≤ 100000; omega, by show 4 ≤ 30000; omega⟩
theorem right_arg {l : List FileB} (h : ShortT l) : l.length ≤ 10000 ∧ ∀ f ∈ l, SmallF f := ⟨by have := h.1; omega, fun f hf => by have := h.2 f hf; exact ⟨by omega, by omega⟩⟩
theorem putH_same {h : HeldB} {l : List FileB} (hc : (putH h l).1.code ≠ 0) : (putH h l).2.2 = h := by
  unfold putH at hc ⊢
  split
  · rfl
  · rename_i h1
    rw [if_neg h1] at hc
    split
    · rfl
    · rename_i h2
      rw [if_neg h2] at hc
      split
      · rfl
      · rename_i h3; rw [if_neg h3] at hc; exact absurd rfl hc
theorem setLk_small {l : List WantB} {x : WantB} (hl : ∀ w ∈ l, SmallW w) (hx : SmallW x) : ∀ w ∈ (setLk l x).2, SmallW w := by
  unfold setLk
  have key : ∀ (a b : List WantB), (∀ w ∈ a, w ∈ l) → (∀ w ∈ b, w ∈ l) → ∀ w ∈ a ++ x :: b, SmallW w := fun a b ha hb w hw => by
    rcases List.mem_append.1 hw with h | h
    · exact hl w (ha w h)
    · rcases List.mem_cons.1 h with rfl | h
      · exact hx
      · exact hl w (hb w h)
  split
  · intro w hw; cases hw
  · split
    · intro w hw; cases hw
    · split
      · exact key _ _ (fun w h => List.mem_of_mem_take h) (fun w h => List.mem_of_mem_drop h)
      · split
        · intro w hw; cases hw
        · exact key _ _ (fun w h => List.mem_of_mem_take h) (fun w h => List.mem_of_mem_drop h)

set_option maxHeartbeats 4000000 in
set_option maxRecDepth 100000 in
theorem lockLoads_walk {E : Nat → Addr} {w : World} (hR : REnv E w) (va vb : Value) (L : List (Value × List FileB)) (ns : List ByteArray) (hva : ZRow w va L) (hvb : TxArg w vb ns) :
    Calls Tryz.prog 4 #[va, vb] w fun e w' => e = .returned (.bool true) ∧ Below w.heap.size w w' := by
  have HA := Lib.hid hva
  have HB := Lib.hid hvb
  have HE := Lib.hid hR
  have CL := Lib.hid (locked_any w hR.1)
  have CLT : Hid (∀ W, Below w.heap.size w W → Calls Tryz.prog 18 #[va] W (LTPost L W)) := fun W hW => longTrees_any va L W (HA.out.ext hW)
  obtain ⟨ao, ac, rfl⟩ := hva.len
  obtain ⟨bo, bc, rfl⟩ := hvb.len
  clear hva hvb hR
  go_enter Tryz.func4, Tryz.ntmps4
  go_wp2_with fail
  refine CL.out.mono ?_
  clear CL
  rintro e w1 ⟨rfl, hb1⟩
  have B1 := Lib.hid hb1
  clear hb1
  go_wp2_with fail
  refine (CLT.out w1 B1.out).mono ?_
  clear CLT
  rintro e w2 ⟨⟨r, rfl, HLT⟩, rfl⟩
  cases r with
  | true =>
    go_wp2_with fail
    go_ret
    exact ⟨rfl, B1.out⟩
  | false =>
  have HL := Lib.hid (HLT.out rfl)
  clear HLT
  by_cases hn8 : ns.length ≤ 8
  rotate_left
  · have hd : decide ((ns.length : Int) > 8) = true := decide_eq_true (by omega)
    go_wp2_with fail
    go_ret
    exact ⟨rfl, B1.out⟩
  have hd : decide ((ns.length : Int) > 8) = false := decide_eq_false (by omega)
  have hL8 := HL.out.1
  go_wp2_with fail
  refine (heldNew_any 40 w1).mono ?_
  rintro e w2 ⟨h1, rfl, hi1, hb2⟩
  have HI1 := Lib.hid hi1
  have B2 := Lib.hid (B1.out.trans (hb2.mono B1.out.size))
  have hs1 := B1.out.size
  have hs2 := hb2.size
  have BA := Lib.hid hb2
  clear hi1 hb2
  go_wp2_with fail
  refine (heldNew_any 40 w2).mono ?_
  rintro e w3 ⟨o1, rfl, hi2, hb3⟩
  have HO1 := Lib.hid hi2
  have HI2 := Lib.hid (HI1.out.below hb3)
  have B3 := Lib.hid (B2.out.trans (hb3.mono B2.out.size))
  have hs3 := hb3.size
  have hfar : h1 + 2 ≤ o1 := by have := HO1.out.far; have := HI1.out.lt; omega
  have B13 := Lib.hid (BA.out.trans (hb3.mono BA.out.size))
  clear hi2 hb3 HI1 BA
  have hs13 : w1.heap.size ≤ w3.heap.size := Nat.le_trans hs2 hs3
  go_wp2_with fail
  go_loopw [8, 9] (fun wv i wr => ∃ (k : Nat) (hc : HeldB) (wl : List WantB), k ≤ 8 ∧ i = .int .i64 k ∧ Hid (WOwn wr w1.heap.size wv wl) ∧ Hid (LockOk wl) ∧ Hid (∀ x ∈ wl, SmallW x) ∧ Hid (HeldIs wr w1.heap.size h1 hc) ∧ Hid (HeldIs wr w2.heap.size o1 (newH 40)) ∧ w2.heap.size ≤ wr.heap.size ∧ Hid (Below w1.heap.size w1 wr)) (fun _ i _ => L.length - (intOf i).toNat)
  case atStart => exact ⟨0, newH 40, [], Nat.zero_le _, rfl, WOwn.nil _ _, lockOk_nil, (fun x hx => by cases hx), HI2, HO1, hs3, B13⟩
  case round =>
    clear HI2 HO1 B13
    obtain ⟨k, hc, wl, hk, rfl, HWO, HWK, HWS, HI, HO, hs2r, Bq⟩ := hrel
    have hwl := HWK.out.few
    have Bw := Lib.hid (B1.out.trans (Bq.out.mono hs1))
    by_cases hin : k < L.length ∧ k < ns.length
    · obtain ⟨hlt, hlt2⟩ := hin
      obtain ⟨bn, on, rfl, hbn, qn0⟩ := HB.out.at hlt2
      obtain ⟨bt, ot, rfl, hbt, qt, _⟩ := HA.out.at hlt
      replace qt := (Bw.out.cell (p := ⟨bt, ot + k, none⟩) hbt).trans qt
      have HFA := Lib.hid (HA.out.2 L[k] (List.getElem_mem hlt))
      obtain ⟨rs1, rs2⟩ := right_arg (HL.out.2 L[k] (List.getElem_mem hlt))
      have HRS := Lib.hid rs2
      clear rs2
      generalize ns[k] = nm at qn0
      have HQN := Lib.hid qn0
      have qn := (Bw.out.cell (p := ⟨bn, on + k, none⟩) hbn).trans qn0
      clear qn0
      generalize L[k].2 = t at HFA rs1 HRS
      generalize L[k].1 = tv at HFA qt
      obtain ⟨xo, xn, xc, rfl⟩ : ∃ o n c, tv = .slice o n c := by obtain ⟨o, c, e, _⟩ := HFA.out.1; exact ⟨o, _, c, e⟩
      by_cases h30 : nm.size ≤ 30
      rotate_left
      · have hd : decide ((nm.size : Int) > 30) = true := decide_eq_true (by omega)
        go_wp2_with fail
        go_ret
        exact ⟨rfl, Bw.out⟩
      have hd : decide ((nm.size : Int) > 30) = false := decide_eq_false (by omega)
      have hBr : w1.heap.size ≤ wr.heap.size := Bq.out.size
      have C := Lib.hid (heldPut_any (E := E) w1.heap.size h1 hc (.slice xo xn xc) t wr (fun w' hk => HFA.out.ext (B1.out.trans ((Bq.out.trans hk.below).mono hs1))) rs1 HRS.out HI.out hBr (HE.out.ext Bw.out).1)
      go_wp2_with fail
      refine C.out.mono ?_
      clear C qt
      rintro e w5 ⟨⟨ev, rfl, hev⟩, hi5, k5, _⟩
      have HEV := Lib.hid hev
      have HI5 := Lib.hid hi5
      have HO5 := Lib.hid (HO.out.apart k5 (.inl hfar))
      have HWO5 := Lib.hid (show WOwn w5 w1.heap.size u8 wl from k5.toKeeps.owns HWO.out heldRow_wants)
      have B5 := Lib.hid (Bq.out.trans k5.below)
      have Bw5 := Lib.hid (B1.out.trans (B5.out.mono hs1))
      have hs5 : w2.heap.size ≤ w5.heap.size := Nat.le_trans hs2r k5.below.size
      have qn5 := (Bw5.out.cell (p := ⟨bn, on + k, none⟩) hbn).trans HQN.out
      clear hev hi5 k5 HI HO HWO qn
      obtain ⟨r, hr⟩ : ∃ r, putH hc t = r := ⟨_, rfl⟩
      rw [hr] at HEV HI5 ⊢
      clear hr
      obtain ⟨re, rn, rh⟩ := r
      dsimp only at HEV HI5 ⊢
      by_cases hz : re.code = 0
      rotate_left
      · obtain ⟨te, x, rfl⟩ := HEV.out.some_inv hz
        clear hz HEV qn5
        go_wp2_with fail
        go_roundw
        case rel => exact ⟨k + 1, rh, wl, by omega, by go_num, HWO5, HWK, HWS, HI5, HO5, hs5, B5⟩
        case measure => simp [intOf]; omega
      · obtain rfl : ev = .nilIface := HEV.out.nil0 hz
        clear hz HEV
        have HSW := Lib.hid (loadsW_small (n := nm) rn h30)
        have C := Lib.hid (lockSet_any (E := E) u8 wl (loadsW nm rn) w5 HWO5.out.arg (by omega) HWS.out HSW.out (HE.out.ext Bw5.out).1.1)
        go_wp2_with fail
        refine C.out.mono ?_
        clear C qn5
        rintro e w6 ⟨⟨v6, ev, rfl, HER, HW6⟩, hb6⟩
        have B6 := Lib.hid (B5.out.trans (hb6.mono B5.out.size))
        have HI6 := Lib.hid (HI5.out.below hb6)
        have HO6 := Lib.hid (HO5.out.below hb6)
        have hs6 : w2.heap.size ≤ w6.heap.size := Nat.le_trans hs5 hb6.size
        have HWO6 := Lib.hid (HWO5.out.ext hb6)
        have HWN := Lib.hid (HW6.out.low B5.out.size)
        have HNS := Lib.hid (setLk_small HWS.out HSW.out)
        clear hb6 HW6 HWO5 HI5 HO5 B5 hs5
        by_cases hz : (setLk wl (loadsW nm rn)).1.code = 0
        · obtain rfl : ev = .nilIface := HER.out.nil0 hz
          have HNK := Lib.hid (setLk_right HWK.out hz)
          obtain ⟨wl2, hw2⟩ : ∃ x, (setLk wl (loadsW nm rn)).2 = x := ⟨_, rfl⟩
          rw [hw2] at HNK HNS HWN
          clear hz hw2 HER
          go_wp2_with fail
          go_roundw
          case rel => exact ⟨k + 1, rh, wl2, by omega, by go_num, HWN, HNK, HNS, HI6, HO6, hs6, B6⟩
          case measure => simp [intOf]; omega
        · obtain ⟨te, x, rfl⟩ := HER.out.some_inv hz
          clear hz HER
          go_wp2_with fail
          go_roundw
          case rel => exact ⟨k + 1, rh, wl, by omega, by go_num, HWO6, HWK, HWS, HI6, HO6, hs6, B6⟩
          case measure => simp [intOf]; omega
    · have hout : ¬ k < L.length ∨ (k < L.length ∧ ¬ k < ns.length) := by omega
      obtain ⟨wn, hwn⟩ : ∃ n, wl.length = n := ⟨_, rfl⟩
      have HWN := Lib.hid hwn
      obtain ⟨wo, wc, rfl⟩ := HWO.out.shape
      rw [hwn] at HWO hwl ⊢
      obtain ⟨we, rfl⟩ : ∃ we, we = wr := ⟨_, rfl⟩
      have C := Lib.hid (lockBundle_any (E := E) w1.heap.size h1 hc (.slice wo wn wc) wl we HI.out HWO.out.row (by omega) HWS.out (HE.out.ext Bw.out).1)
      clear hin hwn
      rcases hout with hlt | ⟨hlt, hlt2⟩
      all_goals
        go_wp2_with fail
        refine C.out.mono ?_
        clear C
        rintro e w4 ⟨⟨t, ev, rfl, HT, HER⟩, hb4⟩
        have B4 := Lib.hid (Bq.out.trans (hb4.mono Bq.out.size))
        have Bw4 := Lib.hid (Bw.out.trans (hb4.mono Bw.out.size))
        have HI4 := Lib.hid (HI.out.below hb4)
        have HO4 := Lib.hid (HO.out.below hb4)
        have HWO4 := Lib.hid (HWO.out.ext hb4)
        have hs4 : w2.heap.size ≤ w4.heap.size := Nat.le_trans hs2r hb4.size
        clear hb4 HI HO HWO Bq Bw hs2r
        by_cases hz : (bundleLk hc wl).1.code = 0
        rotate_left
        · obtain ⟨te, x, rfl⟩ := HER.out.some_inv hz
          obtain rfl : t = ⟨#[]⟩ := bl_inj (by rw [HT.out, bundle_bad hz]; rfl)
          clear hz HER HT
          go_wp2_with fail
          go_ret
          exact ⟨rfl, Bw4.out⟩
        obtain rfl : ev = .nilIface := HER.out.nil0 hz
        obtain ⟨all, hbe, hBd⟩ := bundle_ok hz
        have HTA : Hid (bl t = packL all) := by show _ = _; rw [HT.out, hbe]
        have HBD := Lib.hid hBd
        clear hz HER HT hbe hBd
        by_cases h20 : t.size ≤ 20000
        rotate_left
        · have hd : decide ((t.size : Int) > 20000) = true := decide_eq_true (by omega)
          go_wp2_with fail
          go_ret
          exact ⟨rfl, Bw4.out⟩
        have hd2 : decide ((t.size : Int) > 20000) = false := decide_eq_false (by omega)
        have HLW := Lib.hid (loads_law HI4.out.1 HBD.out (by rw [← HTA.out, bl_length]; exact h20))
        rw [← HTA.out] at HLW
        have C := Lib.hid (lockLoad_any (E := E) (W0 := w) w2.heap.size o1 (newH 40) (.slice wo wn wc) wl t w4 HO4.out HWO4.out.row (by rw [HWN.out]; omega) HWS.out (by omega) HE.out Bw4.out (Nat.le_trans hs1 hs2) hs4)
        go_wp2_with fail
        refine C.out.mono ?_
        clear C
        rintro e w5 ⟨⟨ev, rfl, HER⟩, HO5, K5⟩
        obtain rfl : ev = .nilIface := HER.out.nil0 (by rw [HLW.out.1])
        have HI5 := Lib.hid (HI4.out.apart K5.out (.inr hfar))
        have HWO5 := Lib.hid (show WOwn w5 w1.heap.size (.slice wo wn wc) wl from K5.out.toKeeps.owns HWO4.out heldRow_wants)
        have B5 := Lib.hid (B4.out.trans (K5.out.below.mono hs2))
        have Bw5 := Lib.hid (B1.out.trans (B5.out.mono hs1))
        have HLD := Lib.hid HLW.out.2.1
        have HLB := Lib.hid HLW.out.2.2
        obtain ⟨oc, hoc⟩ : ∃ x, (loadLk (newH 40) wl (bl t)).2 = x := ⟨_, rfl⟩
        rw [hoc] at HO5 HLD HLB
        clear HER HI4 HO4 HWO4 K5 HLW hoc B4 Bw4
        go_wp2_with fail
        go_loopw [15] (fun i wr => ∃ k : Nat, k ≤ wn ∧ i = .int .i64 k ∧ Hid (Below w5.heap.size w5 wr)) (fun i _ => wn - (intOf i).toNat)
        case atStart => exact ⟨0, Nat.zero_le _, rfl, Below.refl _ _⟩
        case round =>
          obtain ⟨j, hj, rfl, Bz⟩ := hrel
          by_cases hlj : j < wn
          · have hjl : j < wl.length := by rw [HWN.out]; exact hlj
            obtain ⟨wb, woff, rfl, hcw⟩ := HWO5.out.row.at hjl
            have q4 := (hcw wr Bz.out).2.2.2.2
            have HCW : Hid (∀ W, Below w5.heap.size w5 W → W.cell? ⟨wb, woff + j * 5 + 4, none⟩ = some (.int .i64 wl[j].sum)) := fun W hW => (hcw W hW).2.2.2.2
            have hmem : wl[j] ∈ wl := List.getElem_mem hjl
            have HG1 : Hid (getL hc.trees wl[j].sum = some (treeOf hc wl[j])) := treeOf_some (HBD.out.held _ hmem)
            have HG2 : Hid (getL oc.trees wl[j].sum = some (treeOf hc wl[j])) := HLD.out.get hmem (HBD.out.held _ hmem)
            have HI64 := Lib.hid (want_i64 (HWK.out.each _ hmem))
            generalize treeOf hc wl[j] = t1 at HG1 HG2
            generalize wl[j].sum = sm at q4 HCW HG1 HG2 HI64
            have Bwz := Lib.hid (Bw5.out.trans (Bz.out.mono Bw5.out.size))
            have C := Lib.hid (heldGet_any (E := E) w1.heap.size h1 hc sm HI64.out wr (HI5.out.below Bz.out) (HE.out.ext Bwz.out).1.1.1)
            clear hcw hmem hjl
            go_wp2_with fail
            refine C.out.mono ?_
            clear C q4
            rintro e w6 ⟨⟨a, av, hga, rfl, HFA⟩ | ⟨hno, _⟩, hb6⟩
            rotate_left
            · rw [HG1.out] at hno; cases hno
            obtain rfl : t1 = a := Option.some.inj (HG1.out.symm.trans hga)
            have B6 := Lib.hid (Bz.out.trans (hb6.mono Bz.out.size))
            have Bw6 := Lib.hid (Bwz.out.trans (hb6.mono Bwz.out.size))
            have q6 := HCW.out w6 B6.out
            obtain ⟨fo, fc, rfl⟩ := HFA.out.shape
            have C := Lib.hid (heldGet_any (E := E) w2.heap.size o1 oc sm HI64.out w6 (HO5.out.below B6.out) (HE.out.ext Bw6.out).1.1.1)
            clear hga hb6
            go_wp2_with fail
            refine C.out.mono ?_
            clear C q6
            rintro e w7 ⟨⟨b, bv, hgb, rfl, HFB⟩ | ⟨hno, _⟩, hb7⟩
            rotate_left
            · rw [HG2.out] at hno; cases hno
            obtain rfl : t1 = b := Option.some.inj (HG2.out.symm.trans hgb)
            have B7 := Lib.hid (B6.out.trans (hb7.mono B6.out.size))
            have C := Lib.hid (treeSame_any (w := w7) (HFA.out.ext hb7).row HFB.out.row (by have := (right_small (held_ok HI5.out.1 HG1.out).1).1; omega))
            rw [decide_eq_true rfl] at C
            obtain ⟨go, gc, rfl⟩ := HFB.out.shape
            clear hgb hb7
            go_wp2_with fail
            refine C.out.mono ?_
            clear C
            rintro e w8 ⟨rfl, hb8⟩
            have B8 := Lib.hid (B7.out.trans (hb8.mono B7.out.size))
            go_wp2_with fail
            go_roundw
            case rel => exact ⟨j + 1, by omega, by go_num, B8⟩
            case measure => simp [intOf]; omega
          · obtain rfl : j = wn := by omega
            have Bwz := Lib.hid (Bw5.out.trans (Bz.out.mono Bw5.out.size))
            have C := Lib.hid (lockBundle_any (E := E) w2.heap.size o1 oc (.slice wo j wc) wl wr (HO5.out.below Bz.out) (HWO5.out.ext Bz.out).row (by rw [HWN.out]; omega) HWS.out (HE.out.ext Bwz.out).1)
            rw [HLB.out] at C
            go_wp2_with fail
            refine C.out.mono ?_
            clear C
            rintro e w6 ⟨⟨t2, ev, rfl, HT2, HER⟩, hb6⟩
            obtain rfl : ev = .nilIface := HER.out.nil0 rfl
            obtain rfl : t2 = t := bl_inj (by rw [HT2.out, HTA.out])
            have B6 := Lib.hid (Bz.out.trans (hb6.mono Bz.out.size))
            have Bw6 := Lib.hid (Bwz.out.trans (hb6.mono Bwz.out.size))
            have C := Lib.hid (heldSums_any w2.heap.size o1 oc w6 (HO5.out.below B6.out))
            have hle : oc.sums.length ≤ j := by rw [sums_len, ← HWN.out]; exact HLD.out.len
            have hdl : decide ((oc.sums.length : Int) ≤ (j : Int)) = true := decide_eq_true (by omega)
            have q0 : (t2.toList == t2.toList) = true := beq_self_eq_true _
            clear HER HT2 hb6
            go_wp2_with fail
            refine C.out.mono ?_
            clear C
            rintro e w7 ⟨⟨ov, rfl, HS⟩, hb7⟩
            obtain ⟨so, sc, rfl⟩ := IOwn.shape HS.out
            go_wp2_with fail
            go_ret
            exact ⟨rfl, Bw6.out.trans (hb7.mono Bw6.out.size)⟩
end Go.Proofs.YtgchgdkpipanjaaGreatDoor
