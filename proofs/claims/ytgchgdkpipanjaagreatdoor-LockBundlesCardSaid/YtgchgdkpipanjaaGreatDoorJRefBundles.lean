/- The reference's LockFault, LockText: contracts. The reference's BundleOf: the contract. The reference's SplitOf: the contract. The reference's LoadOf: the contract. -/
import Derived.Test.YtgchgdkpipanjaaGreatDoorJRefLock
import Derived.Test.YtgchgdkpipanjaaGreatDoorJRefTreeUp
import Derived.Test.YtgchgdkpipanjaaGreatDoorJRefWantsUp
import Derived.Test.YtgchgdkpipanjaaGreatDoorJLockAll
import Derived.BigQuiet
import Derived.Test.YtgchgdkpipanjaaGreatDoorJLockPlainAll
import Derived.Test.YtgchgdkpipanjaaGreatDoorJRefHeldUp
import Derived.Test.YtgchgdkpipanjaaGreatDoorJLockHeldUp
import Derived.Test.YtgchgdkpipanjaaGreatDoorJHeldFacts
import Derived.Test.YtgchgdkpipanjaaGreatDoorJRefReadUp
namespace Go.Proofs.YtgchgdkpipanjaaGreatDoor
open Go Go.RowKit

/-- What the reference's LockFault hands back. -/
def RLFPost (l : List WantB) (w : World) (e : Ending) (w' : World) : Prop := e = .returned (.agg (erA (lockEr l))) ∧ Below w.heap.size w w'
theorem RLFPost.of {l : List WantB} {w w' : World} {c : Nat} {a : Int} (h : lockEr l = ⟨c, some a⟩) (hb : Below w.heap.size w w') : RLFPost l w (.returned (.agg #[.int .i64 c, .int .i64 a])) w' := ⟨by unfold erA; rw [h]; rfl, hb⟩

set_option maxHeartbeats 4000000 in
set_option maxRecDepth 100000 in
theorem refLockFault_any (v : Value) (l : List WantB) (w : World) (hv : WRow w v l) (hl : l.length ≤ 100000) (hS : ∀ f ∈ l, SmallW f) :
    Calls Tryz.prog 27 #[v] w (RLFPost l w) := by
  have HV := Lib.hid hv
  have HSM := Lib.hid hS
  obtain ⟨ao, cap, rfl⟩ := hv.len
  obtain ⟨g, hg⟩ : ∃ g, w.heap.size = g := ⟨_, rfl⟩
  obtain ⟨wg, hwg⟩ : ∃ wg, w.alloc (.cells #[.int .i64 0, .int .i64 0] 59) = wg := ⟨_, rfl⟩
  have hal : Below w.heap.size w wg := by rw [← hwg]; exact (Below.refl _ _).alloc (Nat.le_refl _) _
  have FG := Lib.hid (show FaultAt wg g 0 0 by rw [← hwg, ← hg]; exact FaultAt.new w 0 0)
  have hgw : w.heap.size ≤ g := Nat.le_of_eq hg
  have BG := Lib.hid hal
  have HWG := Lib.hid hwg
  have HG := Lib.hid hg
  clear hal hwg hg hv hS
  go_enter Tryz.func27, Tryz.ntmps27
  by_cases h20 : l.length ≤ 20
  rotate_left
  · have hd : decide ((l.length : Int) > 20) = true := decide_eq_true (by omega)
    have HY := Lib.hid (lockEr_many (l := l) (by omega))
    have C := Lib.hid (refBare_any 8 wg)
    go_wp2_with fail
    rw [HWG.out, HG.out]
    refine C.out.mono ?_
    clear C
    rintro e w1 ⟨rfl, hb1⟩
    have F1 := FG.out.ext hb1
    obtain ⟨y0, y1, y2, y3⟩ := F1.cells
    obtain ⟨s0, s1, s2⟩ := fault_end F1 8 (-1) w.heap.size hgw
    have B1 := Lib.hid ((BG.out.trans (hb1.mono BG.out.size)).trans s2)
    clear F1 hb1 s2
    go_wp2_with fail
    refine bodyPost_ret (v := .agg #[.int .i64 8, .int .i64 (-1)]) ?_ rfl ⟨by rw [HY.out]; rfl, B1.out⟩
    simp [results, Tryz.results27, go_sem, s0, s1]
  have hd : decide ((l.length : Int) > 20) = false := decide_eq_false (by omega)
  go_wp2_with fail
  rw [HWG.out, HG.out]
  go_loopw [3] (fun i wr => ∃ k : Nat, k ≤ l.length ∧ i = .int .i64 k ∧ Hid (lockGo none 0 l = lockGo (prevW l k) k (l.drop k)) ∧ Hid (Below wg.heap.size wg wr)) (fun i _ => l.length - (intOf i).toNat)
  case atStart => exact ⟨0, Nat.zero_le _, rfl, rfl, Below.refl _ _⟩
  case round =>
    obtain ⟨k, hk, rfl, HF, Bq⟩ := hrel
    have Bw := Lib.hid (BG.out.trans (Bq.out.mono BG.out.size))
    by_cases hlt : k < l.length
    · obtain ⟨b, off, rfl, hcell⟩ := HV.out.at hlt
      obtain ⟨q0, q1, q2, q3, q4⟩ := hcell wr Bw.out
      have HAT := Lib.hid (fun c => lockEr_at (c := c) h20 hlt HF.out)
      have HNX := Lib.hid (lockGo_next hlt HF.out)
      have HW := Lib.hid (fun c => lockE_want (c := c) hlt)
      have HFR := Lib.hid (fun h0 => lockE_from hlt h0)
      have HFI : Hid (k = 0 → wantE l[k] = 0 → lockE (prevW l k) l[k] = 0) := fun e h => by subst e; exact lockE_first hlt h
      have HPV : Hid (∀ h0 : 0 < k, ∀ W, Below w.heap.size w W → W.cell? ⟨b, off + (k - 1) * 5, none⟩ = some (.string (l[k - 1]'(by omega)).name)) := fun h0 W hW => by
        obtain ⟨b', off', e, h⟩ := HV.out.at (show k - 1 < l.length by omega)
        injection e with e
        injection e with e1 e2
        subst e1 e2
        exact (h W hW).1
      have HNM : Hid (∀ W, Below w.heap.size w W → W.cell? ⟨b, off + k * 5, none⟩ = some (.string l[k].name)) := fun W hW => (hcell W hW).1
      have sz := HSM.out l[k] (List.getElem_mem hlt)
      clear hcell
      obtain ⟨f, hf⟩ : ∃ f, l[k] = f := ⟨_, rfl⟩
      rw [hf] at q0 q1 q2 q3 q4 sz HAT HNX HW HFR HFI HNM
      clear hf
      have C := Lib.hid (refWantError_any f wr (by have := sz.1; omega) (by have := sz.2.1; omega))
      go_wp2_with fail
      refine C.out.mono ?_
      clear C q0 q1 q2 q3 q4
      rintro e w1 ⟨rfl, hb1⟩
      have B1 := Lib.hid (Bw.out.trans (hb1.mono Bw.out.size))
      have Bq1 := Lib.hid (Bq.out.trans (hb1.mono Bq.out.size))
      have F1 := Lib.hid (FG.out.ext Bq1.out)
      obtain ⟨y0, y1, y2, y3⟩ := F1.out.cells
      clear hb1 Bq
      cases hw : wantE f with
      | succ c =>
        have HY := Lib.hid (HAT.out c (HW.out c hw))
        obtain ⟨s0, s1, s2⟩ := fault_end F1.out ((c : Int) + 1) (k : Int) w.heap.size hgw
        have BZ := Lib.hid (B1.out.trans s2)
        have e0 : (((c + 1 : Nat) : Int) == 0) = false := by rw [beq_eq_false_iff_ne]; omega
        rw [show ((c + 1 : Nat) : Int) = (c : Int) + 1 from rfl] at e0 ⊢
        have hpos : (0 : Int) < (c : Int) + 1 := by omega
        clear HAT HNX HW HFR HFI HPV HNM hw HF s2
        go_wp2_with fail
        refine bodyPost_ret (v := .agg #[.int .i64 ((c : Int) + 1), .int .i64 k]) ?_ rfl (RLFPost.of (c := c + 1) HY.out BZ.out)
        simp [results, Tryz.results27, go_sem, s0, s1]
      | zero =>
        rw [show ((0 : Nat) : Int) = 0 from rfl]
        by_cases hk0 : k = 0
        · have HF2 : Hid (lockGo none 0 l = lockGo (prevW l (k + 1)) (k + 1) (l.drop (k + 1))) := HNX.out (HFI.out hk0 hw)
          have hd0 : decide ((k : Int) > 0) = false := decide_eq_false (by omega)
          have hkz : k ≤ 0 := by omega
          clear HAT HNX HW HFR HFI hw HF hk0 HPV HNM
          go_wp2_with fail
          go_roundw
          case rel => exact ⟨k + 1, by omega, by go_num, HF2, Bq1⟩
          case measure => simp [intOf]; omega
        · have h0 : 0 < k := by omega
          have hE := HFR.out h0 hw
          have p0 := HPV.out h0 w1 B1.out
          have p1 := HNM.out w1 B1.out
          obtain ⟨g2, hg2⟩ : ∃ x, l[k - 1]'(by omega) = x := ⟨_, rfl⟩
          rw [hg2] at hE p0
          have hwr : IntKind.i64.wrap ((k : Int) - 1) = ((k - 1 : Nat) : Int) := by rw [IntWalk.i64_in _ (by omega)]; omega
          have hd0 : decide ((k : Int) > 0) = true := decide_eq_true (by omega)
          have hkl : ((k - 1 : Nat) : Int) < (l.length : Int) := by omega
          obtain ⟨lq, hlq⟩ : ∃ lq, (Op.bytesLess f.name.toList g2.name.toList || f.name.toList == g2.name.toList) = lq := ⟨_, rfl⟩
          have HEQ : Hid (lockE (prevW l k) f = if lq = true then 9 else 0) := by show _ = _; rw [hE, leq_names, hlq]
          have HLQ := Lib.hid hlq
          clear hE hg2 hlq hw HW HFR HFI HPV HNM
          go_wp2_with fail
          go_quiet (fail)
          clear hwr hkl hd0 p0 p1
          rw [HLQ.out]
          obtain ⟨wq, hwq⟩ : ∃ wq, w1.drewN nq = wq := ⟨_, rfl⟩
          have hd : Below w1.heap.size w1 wq := by rw [← hwq]; exact below_drewN _ w1 nq
          have Bq2 := Lib.hid (Bq1.out.trans (hd.mono Bq1.out.size))
          have B2 := Lib.hid (B1.out.trans (hd.mono B1.out.size))
          have F2 := Lib.hid (F1.out.ext hd)
          rw [hwq]
          clear hwq y0 y1 y2 y3 F1 B1 Bq1 hd
          obtain ⟨y0, y1, y2, y3⟩ := F2.out.cells
          cases lq with
          | true =>
            have HY := Lib.hid (HAT.out 8 (by rw [HEQ.out]; rfl))
            obtain ⟨s0, s1, s2⟩ := fault_end F2.out 9 (k : Int) w.heap.size hgw
            have BZ := Lib.hid (B2.out.trans s2)
            clear HAT HNX HEQ HF s2
            go_wp2_with fail
            refine bodyPost_ret (v := .agg #[.int .i64 9, .int .i64 k]) ?_ rfl (RLFPost.of (c := 9) HY.out BZ.out)
            simp [results, Tryz.results27, go_sem, s0, s1]
          | false =>
            have HF2 : Hid (lockGo none 0 l = lockGo (prevW l (k + 1)) (k + 1) (l.drop (k + 1))) := HNX.out (by rw [HEQ.out]; rfl)
            clear HAT HNX HEQ HF
            go_wp2_with fail
            go_roundw
            case rel => exact ⟨k + 1, by omega, by go_num, HF2, Bq2⟩
            case measure => simp [intOf]; omega
    · obtain rfl : k = l.length := by omega
      have HY := Lib.hid (lockEr_end h20 HF.out)
      have C := Lib.hid (refFine_any wr)
      clear HF
      go_wp2_with fail
      refine C.out.mono ?_
      clear C
      rintro e w1 ⟨rfl, hb1⟩
      have F1 := FG.out.ext (Bq.out.trans (hb1.mono Bq.out.size))
      obtain ⟨y0, y1, y2, y3⟩ := F1.cells
      obtain ⟨s0, s1, s2⟩ := fault_end F1 0 (-1) w.heap.size hgw
      have B1 := Lib.hid ((Bw.out.trans (hb1.mono Bw.out.size)).trans s2)
      clear F1 hb1 s2
      go_wp2_with fail
      refine bodyPost_ret (v := .agg #[.int .i64 0, .int .i64 (-1)]) ?_ rfl ⟨by rw [HY.out]; rfl, B1.out⟩
      simp [results, Tryz.results27, go_sem, s0, s1]

end Go.Proofs.YtgchgdkpipanjaaGreatDoor

namespace Go.Proofs.YtgchgdkpipanjaaGreatDoor
open Go Go.RowKit Go.Maps

/-- What the reference's BundleOf hands back. -/
def RBundPost (r : Er × List UInt8) (w : World) (e : Ending) (w' : World) : Prop :=
  (∃ t : ByteArray, e = .returned (.tuple #[.string t, .agg (erA r.1)]) ∧ Hid (bl t = r.2)) ∧ Below w.heap.size w w'
/-- Where a held tree lies. -/
theorem RHeldIs.tree {W0 w : World} {B b : Nat} {h : HeldB} (hi : RHeldIs W0 w B b h) (ok : HeldOk h) {n : Int} {t : List FileB} (hg : getL h.trees n = some t) :
    ∃ (k g cap : Nat) (tv : Value), ixOf n h.sums = some k ∧ k < h.trees.length ∧ w.cell? ⟨b, 1, none⟩ = some (.slice (some ⟨g, 0, none⟩) h.trees.length cap) ∧ w.cell? ⟨g, k * 2 + 1, none⟩ = some tv ∧ TreeV W0 w B tv t := by
  have hs : (ixOf n h.sums).isSome = true := by rw [has_get, hg]; rfl
  obtain ⟨k, hk⟩ := Option.isSome_iff_exists.1 hs
  obtain ⟨lv, vs, hA, hV⟩ := hi
  obtain ⟨hk1, hk2, hk3⟩ := ixOf_some hk
  have hkt : k < h.trees.length := by unfold HeldB.sums at hk1; rwa [List.length_map] at hk1
  have hkv : k < vs.length := by rw [hV.len]; exact hkt
  obtain ⟨ao, cap, rfl, _, _, _, H3⟩ := trees_parts hA.row
  obtain ⟨g, rfl, _, hcell⟩ := H3 k hkv
  obtain ⟨_, c1, _⟩ := rheld_ready hA.blk
  obtain ⟨h1, h2⟩ := hV.at k hkv hkt
  refine ⟨k, g, cap, vs[k].2, hk, hkt, by rw [c1, hV.len], (hcell k hkv).2, ?_⟩
  have e : h.trees[k].2 = t := by
    have hn : h.trees[k].1 = n := by
      rw [← hk2]; simp [HeldB.sums]
    have := getL_at hkt ok.nodup
    rw [hn] at this
    rw [hg] at this
    exact (Option.some.inj this).symm
  rw [← e]; exact h2

/-- A fault made ahead of what is handed back. -/
theorem own_fault_hi {w : World} {B g : Nat} {v : Value} {l : List FileB} {c a : Int} (h : FOwn w B v l) (hg : FaultAt w g c a) (x y : Value) : FOwn ((w.setCell ⟨g, 0, none⟩ x).setCell ⟨g, 1, none⟩ y) B v l :=
  (fault_keeps hg x y).owns h (fun cs ⟨_, _, h⟩ => by injection h with _ h _; exact absurd h (by decide))
set_option maxHeartbeats 4000000 in
set_option maxRecDepth 100000 in
theorem refBundle_any {W0 : World} (B b : Nat) (hh : HeldB) (v : Value) (l : List WantB) (w : World) (hi : RHeldIs W0 w B b hh) (ok : HeldOk hh) (hW : Below W0.heap.size W0 w) (hv : WRow w v l) (hl : l.length ≤ 100000) (hS : ∀ f ∈ l, SmallW f) (hSort : RSortAny Tryz.prog 122) :
    Calls Tryz.prog 38 #[.pointer (some ⟨b, 0, none⟩), v] w (RBundPost (bundleLk hh l) w) := by
  have HV := Lib.hid hv
  have HI := Lib.hid hi
  have HHO := Lib.hid ok
  have HW0 := Lib.hid hW
  have HSO : Aside _ := hSort
  have hn40 : hh.trees.length ≤ 1000 := by have h1 := ok.few; have h2 := ok.len; omega
  obtain ⟨g, hg⟩ : ∃ g, w.heap.size = g := ⟨_, rfl⟩
  obtain ⟨wg, hwg⟩ : ∃ wg, w.alloc (.cells #[.int .i64 0, .int .i64 0] 59) = wg := ⟨_, rfl⟩
  have hal : Below w.heap.size w wg := by rw [← hwg]; exact (Below.refl _ _).alloc (Nat.le_refl _) _
  have FG := Lib.hid (show FaultAt wg g 0 0 by rw [← hwg, ← hg]; exact FaultAt.new w 0 0)
  have hgw : w.heap.size ≤ g := Nat.le_of_eq hg
  have BG := Lib.hid hal
  have HWG := Lib.hid hwg
  have HG := Lib.hid hg
  have C := Lib.hid (refLockFault_any v l wg (hv.ext hal) hl hS)
  obtain ⟨ao, cap, rfl⟩ := hv.len
  clear hal hwg hg hv hi ok hW hSort hS
  go_enter Tryz.func38, Tryz.ntmps38
  go_wp2_with fail
  rw [HWG.out, HG.out]
  refine C.out.mono ?_
  clear C
  rintro e w1 ⟨rfl, hb1⟩
  have F1 := Lib.hid (FG.out.ext hb1)
  have B1 := Lib.hid (BG.out.trans (hb1.mono BG.out.size))
  obtain ⟨c, hc⟩ : ∃ c, (lockEr l).code = c := ⟨_, rfl⟩
  obtain ⟨a, ha⟩ : ∃ a : Int, (lockEr l).at?.getD (-1) = a := ⟨_, rfl⟩
  have HC := Lib.hid hc
  have HA := Lib.hid ha
  rw [show erA (lockEr l) = #[.int .i64 c, .int .i64 a] by unfold erA; rw [hc, ha]]
  obtain ⟨q, hq⟩ : ∃ q, w1.heap.size = q := ⟨_, rfl⟩
  obtain ⟨w2, hw2⟩ : ∃ w2, w1.alloc (.cells #[.int .i64 c, .int .i64 a] 59) = w2 := ⟨_, rfl⟩
  have hal2 : Below w1.heap.size w1 w2 := by rw [← hw2]; exact (Below.refl _ _).alloc (Nat.le_refl _) _
  have FQ := Lib.hid (show FaultAt w2 q c a by rw [← hw2, ← hq]; exact FaultAt.new w1 _ _)
  have F2 := Lib.hid (F1.out.ext hal2)
  have B2 := Lib.hid (B1.out.trans (hal2.mono B1.out.size))
  have HW2 := Lib.hid hw2
  have HQ := Lib.hid hq
  have hqw : w.heap.size ≤ q := by rw [← HQ.out]; exact Nat.le_trans hgw (Nat.le_of_lt F1.out.lt)
  have hgq : g ≠ q := by have := F1.out.lt; omega
  have hgw2 : g < w2.heap.size := F2.out.lt
  have hqw2 : q < w2.heap.size := FQ.out.lt
  clear hb1 hc ha hal2 hw2 hq FG BG F1 B1
  obtain ⟨x0, x1, _, _⟩ := FQ.out.cells
  obtain ⟨y0, y1, y2, y3⟩ := F2.out.cells
  go_upto_region 2 with fail
  rw [HW2.out, HQ.out]
  by_cases hz : c = 0
  rotate_left
  · have hpos : (0 : Int) < (c : Int) := by omega
    have HY : Hid (bundleLk hh l = (lockEr l, [])) := bundle_lock (by rw [HC.out]; exact hz)
    clear hz
    go_wp2_with fail
    go_region
    all_goals go_wp2_with fail
    obtain ⟨s0, s1, s2⟩ := fault_end F2.out c a w.heap.size hgw
    rw [HY.out]
    refine bodyPost_ret (v := .tuple #[.string ⟨#[]⟩, .agg #[.int .i64 c, .int .i64 a]]) ?_ rfl ⟨⟨⟨#[]⟩, by unfold erA; rw [HC.out, HA.out], rfl⟩, (B2.out.trans s2).drew⟩
    simp [results, Tryz.results38, go_sem, s0, s1]
  have HZ : Hid ((lockEr l).code = 0) := by show _ = _; rw [HC.out]; exact hz
  have OK := Lib.hid ((lockOk_iff l).1 HZ.out)
  have hl20 := OK.out.few
  obtain rfl : c = 0 := hz
  have HA1 : Hid (a = -1) := by
    show _ = _
    rw [← HA.out, OK.out.er]; rfl
  rw [show ((0 : Nat) : Int) = 0 from rfl] at x0 ⊢
  have HRI2 := Lib.hid (HI.out.below B2.out)
  clear HI
  go_wp2_with fail
  go_loopw [7] (fun i wr => ∃ k : Nat, k ≤ l.length ∧ i = .int .i64 k ∧ Hid (missGo hh 0 l = missGo hh k (l.drop k)) ∧ Hid (∀ x ∈ l.take k, getL hh.trees x.sum = some (treeOf hh x)) ∧ wr = w2) (fun i _ => l.length - (intOf i).toNat)
  case atStart => exact ⟨0, Nat.zero_le _, rfl, rfl, (fun x hx => by cases hx), rfl⟩
  case round =>
    obtain ⟨k, hk, rfl, HM, HGS, rfl⟩ := hrel
    by_cases hlt : k < l.length
    · obtain ⟨ba, off, rfl, hcell⟩ := HV.out.at hlt
      obtain ⟨q0, q1, q2, q3, q4⟩ := hcell wr B2.out
      have HMA := Lib.hid (fun hn => bundle_miss HZ.out (miss_at hlt HM.out hn))
      have HMN : Hid (∀ t, getL hh.trees l[k].sum = some t → missGo hh 0 l = missGo hh (k + 1) (l.drop (k + 1)) ∧ ∀ x ∈ l.take (k + 1), getL hh.trees x.sum = some (treeOf hh x)) := fun t ht => by
        have htt := treeOf_get ht
        refine ⟨miss_next hlt HM.out ht, fun x hx => ?_⟩
        rw [List.take_succ_eq_append_getElem hlt] at hx
        rcases List.mem_append.1 hx with hx | hx
        · exact HGS.out x hx
        · obtain rfl := List.mem_singleton.1 hx
          rw [ht, htt]
      clear hcell HGS HM
      obtain ⟨f, hf⟩ : ∃ f, l[k] = f := ⟨_, rfl⟩
      rw [hf] at q0 q1 q2 q3 q4 HMA HMN
      clear hf
      have C := Lib.hid (refHFind_any W0 B b hh f.sum wr HRI2.out hn40)
      cases hg : getL hh.trees f.sum with
      | none =>
        have hx : ixOf f.sum hh.sums = none := by
          cases h : ixOf f.sum hh.sums with
          | none => rfl
          | some j => have := @has_get hh f.sum; rw [h, hg] at this; cases this
        rw [hx] at C
        have HY := Lib.hid (HMA.out hg)
        clear hx hg HMA HMN q0 q1 q2 q3
        go_wp2_with fail
        refine C.out.mono ?_
        clear C
        rintro e w3 ⟨rfl, rfl⟩
        rw [show ixInt none = -1 from rfl]
        go_wp2_with fail
        obtain ⟨s0, s1, s2⟩ := fault_end F2.out 6 (k : Int) w.heap.size hgw
        rw [HY.out]
        refine bodyPost_ret (v := .tuple #[.string ⟨#[]⟩, .agg #[.int .i64 6, .int .i64 k]]) ?_ rfl ⟨⟨⟨#[]⟩, rfl, rfl⟩, B2.out.trans s2⟩
        simp [results, Tryz.results38, go_sem, s0, s1]
      | some t =>
        obtain ⟨j, hj⟩ : ∃ j, ixOf f.sum hh.sums = some j := Option.isSome_iff_exists.1 (by rw [has_get, hg]; rfl)
        rw [hj] at C
        have HN := Lib.hid (HMN.out t hg)
        clear hg hj HMA HMN q0 q1 q2 q3
        have hpj : ¬ ((j : Nat) : Int) < 0 := by omega
        go_wp2_with fail
        refine C.out.mono ?_
        clear C
        rintro e w3 ⟨rfl, rfl⟩
        rw [show ixInt (some j) = (j : Int) from rfl]
        go_wp2_with fail
        go_roundw
        case rel => exact ⟨k + 1, by omega, by go_num, HN.out.1, HN.out.2, trivial⟩
        case measure => simp [intOf]; omega
    · obtain rfl : k = l.length := by omega
      have HM2 := Lib.hid (miss_end HM.out)
      have HG2 : Hid (∀ x ∈ l, getL hh.trees x.sum = some (treeOf hh x)) := by have := HGS.out; rwa [List.take_length] at this
      clear HM HGS
      obtain ⟨we, rfl⟩ : ∃ we, we = wr := ⟨_, rfl⟩
      go_wp2_with fail
      go_loopw [8, 9] (fun av i wr => ∃ (k : Nat) (acc : List FileB), k ≤ l.length ∧ i = .int .i64 k ∧ Hid (FOwn wr we.heap.size av acc) ∧ Hid ((treeEr acc).code = 0) ∧ Hid (graftsGo hh [] l = graftsGo hh acc (l.drop k)) ∧ Hid (Below we.heap.size we wr)) (fun _ i _ => l.length - (intOf i).toNat)
      case atStart => exact ⟨0, [], Nat.zero_le _, rfl, FOwn.nil _ _, rfl, rfl, Below.refl _ _⟩
      case round =>
        obtain ⟨k, acc, hk, rfl, HA, HAE, HGR, Bq⟩ := hrel
        obtain ⟨oo, oc, rfl⟩ := HA.out.shape
        have ra1 := (right_small HAE.out).1
        have Bw2 := Lib.hid (B2.out.trans (Bq.out.mono B2.out.size))
        have HRI := Lib.hid (HRI2.out.below Bq.out)
        by_cases hlt : k < l.length
        · obtain ⟨ba, off, rfl, hcell⟩ := HV.out.at hlt
          have HCE : Hid (∀ W, Below we.heap.size we W → W.cell? ⟨ba, off + k * 5, none⟩ = some (.string l[k].name) ∧ W.cell? ⟨ba, off + k * 5 + 4, none⟩ = some (.int .i64 l[k].sum)) := fun W hW => by
            obtain ⟨q0, _, _, _, q4⟩ := hcell W (B2.out.trans (hW.mono B2.out.size))
            exact ⟨q0, q4⟩
          have hgt := HG2.out l[k] (List.getElem_mem hlt)
          have HTR : Hid ((treeEr (treeOf hh l[k])).code = 0) := (held_ok HHO.out hgt).1
          have hnm := want_name (OK.out.each l[k] (List.getElem_mem hlt))
          have HGB := Lib.hid (fun c => grafts_bad (c := c) hlt HGR.out)
          have HGN := Lib.hid (grafts_next hlt HGR.out)
          clear hcell HGR
          obtain ⟨f, hf⟩ : ∃ f, l[k] = f := ⟨_, rfl⟩
          rw [hf] at HCE HTR hnm HGB HGN hgt
          clear hf
          obtain ⟨t, ht⟩ : ∃ t, treeOf hh f = t := ⟨_, rfl⟩
          rw [ht] at HTR HGB HGN hgt
          clear ht
          have HTA : Hid (∃ (j gt cap2 : Nat) (tso : Option Addr) (tc : Nat), ixOf f.sum hh.sums = some j ∧ j < hh.trees.length ∧ ∀ W, Below we.heap.size we W → W.cell? ⟨b, 1, none⟩ = some (.slice (some ⟨gt, 0, none⟩) hh.trees.length cap2) ∧ W.cell? ⟨gt, j * 2 + 1, none⟩ = some (.slice tso t.length tc) ∧ FArg W (.slice tso t.length tc) t) := by
            obtain ⟨j, gt, cap2, tv, h1, h2, h3, h4, h5⟩ := HRI2.out.tree HHO.out hgt
            have hx := (h5.arg (HW0.out.trans (B2.out.mono HW0.out.size))).1
            obtain ⟨tso, tc, rfl, _⟩ := hx
            refine ⟨j, gt, cap2, tso, tc, h1, h2, fun W hW => ⟨(hW.cell (World.block_lt_of_cell? _ _ h3)).trans h3, (hW.cell (World.block_lt_of_cell? _ _ h4)).trans h4, (h5.arg (HW0.out.trans (B2.out.mono HW0.out.size))).ext hW⟩⟩
          clear hgt
          obtain ⟨j, gt, cap2, tso, tc, hix, hjl, HTC⟩ := HTA.out
          have HTC := Lib.hid HTC
          clear HTA
          obtain ⟨q0, q4⟩ := HCE.out wr Bq.out
          obtain ⟨c1, c2', _⟩ := HTC.out wr Bq.out
          have HF : Hid (∀ W, Below we.heap.size we W → Calls Tryz.prog 77 #[.pointer (some ⟨b, 0, none⟩), .int .i64 f.sum] W fun e w' => e = .returned (.int .i64 (j : Int)) ∧ w' = W) := fun W hW => by
            refine (refHFind_any W0 B b hh f.sum W (HRI2.out.below hW) hn40).mono ?_
            rintro e w' ⟨rfl, rfl⟩
            exact ⟨by rw [hix]; rfl, rfl⟩
          obtain ⟨c2, hc2⟩ : ∃ c, (graftT acc f.name t).1.code = c := ⟨_, rfl⟩
          obtain ⟨a2, ha2⟩ : ∃ a : Int, (graftT acc f.name t).1.at?.getD (-1) = a := ⟨_, rfl⟩
          obtain ⟨acc2, hacc2⟩ : ∃ x, (graftT acc f.name t).2 = x := ⟨_, rfl⟩
          have HGC : Hid (∀ W, Below wr.heap.size wr W → Calls Tryz.prog 78 #[.slice oo acc.length oc, .string f.name, .slice tso t.length tc] W fun e w' => (∃ v, e = .returned (.tuple #[v, .agg #[.int .i64 c2, .int .i64 a2]]) ∧ Hid (FOwn w' we.heap.size v acc2)) ∧ Below W.heap.size W w' ∧ Below we.heap.size we w') := fun W hW => by
            have := refGraft_any (.slice oo acc.length oc) (.slice tso t.length tc) acc t f.name W (HA.out.ext hW).arg (HTC.out W (Bq.out.trans (hW.mono Bq.out.size))).2.2.1 (by have := ra1; omega) (by have := (right_small HTR.out).1; omega) (right_small HAE.out).2.1 (right_small HTR.out).2.1 (fun x hx => by have := (right_small HTR.out).2.2 x hx; omega) (by omega) HSO
            refine this.mono ?_
            rintro e w' ⟨⟨v, rfl, hO⟩, hb⟩
            have hb2 := hW.trans (hb.mono hW.size)
            exact ⟨⟨v, by unfold erA; rw [hc2, ha2], by show FOwn _ _ _ _; rw [← hacc2]; exact hO.out.low (Nat.le_trans Bq.out.size hW.size)⟩, hb, Bq.out.trans (hb2.mono Bq.out.size)⟩
          have HC2 := Lib.hid hc2
          have HAC2 := Lib.hid hacc2
          clear hix HA hc2 ha2 hacc2
          have hjl2 : (j : Int) < (hh.trees.length : Int) := by omega
          go_upto_region 13 with fail
          have HB0 := Lib.hid (below_drewN wr.heap.size wr 1)
          have HB1 : Hid (Below wr.heap.size wr ((wr.drewN 1).alloc (.cells #[.int .i64 0, .int .i64 0] 59))) := (below_drewN wr.heap.size wr 1).alloc (Nat.le_refl _) _
          have FW : Hid (FaultAt ((wr.drewN 1).alloc (.cells #[.int .i64 0, .int .i64 0] 59)) wr.heap.size 0 0) := FaultAt.new (wr.drewN 1) 0 0
          go_cut [10, 11] from 40 to 63 (fun ov pv wx => ∃ pb, pv = .pointer (some ⟨pb, 0, none⟩) ∧ Hid (FaultAt wx pb c2 a2) ∧ Hid (FOwn wx we.heap.size ov acc2) ∧ Hid (Below we.heap.size we wx))
          case first =>
            go_region_held3 (fun W : World => W.cell? ⟨b, 1, none⟩ = some (.slice (some ⟨gt, 0, none⟩) hh.trees.length cap2) ∧ W.cell? ⟨gt, j * 2 + 1, none⟩ = some (.slice tso t.length tc) ∧ W.cell? ⟨ba, off + k * 5, none⟩ = some (.string f.name) ∧ W.cell? ⟨ba, off + k * 5 + 4, none⟩ = some (.int .i64 f.sum)) (first | exact ⟨z4, z5, z6, z7⟩ | exact ⟨d1, d2, d3, d4⟩ | exact ⟨Lib.cell?_alloc_some _ d1, Lib.cell?_alloc_some _ d2, Lib.cell?_alloc_some _ d3, Lib.cell?_alloc_some _ d4⟩ | exact ⟨c1, c2', q0, q4⟩ | exact ⟨Lib.cell?_alloc_some _ c1, Lib.cell?_alloc_some _ c2', Lib.cell?_alloc_some _ q0, Lib.cell?_alloc_some _ q4⟩)
              (first
                | (go_at_call 77; refine (HF.out _ (Bq.out.trans (HB0.out.mono Bq.out.size))).mono ?_; rintro e w3 ⟨rfl, rfl⟩)
                | (go_at_call 77; refine (HF.out _ (Bq.out.trans (HB1.out.mono Bq.out.size))).mono ?_; rintro e w3 ⟨rfl, rfl⟩)
                | (go_at_call 78; refine (HGC.out _ HB0.out).mono ?_; rintro e w3 ⟨⟨ov, rfl, HO3⟩, hb3, Bq3⟩; obtain ⟨d1, d2, _⟩ := HTC.out w3 Bq3; obtain ⟨d3, d4⟩ := HCE.out w3 Bq3)
                | (go_at_call 78; refine (HGC.out _ HB1.out).mono ?_; rintro e w3 ⟨⟨ov, rfl, HO3⟩, hb3, Bq3⟩; obtain ⟨d1, d2, _⟩ := HTC.out w3 Bq3; obtain ⟨d3, d4⟩ := HCE.out w3 Bq3; have FX := Lib.hid (FW.out.ext hb3); obtain ⟨z0, z1, z2, z3⟩ := FX.out.cells; have BZ := Bq3.trans (fault_end FX.out c2 a2 we.heap.size Bq.out.size).2.2; obtain ⟨z4, z5, _⟩ := HTC.out _ BZ; obtain ⟨z6, z7⟩ := HCE.out _ BZ; have HOZ := own_fault_hi HO3.out FX.out (.int .i64 c2) (.int .i64 a2)))
            all_goals (go_wp2_with fail; go_meet)
            all_goals first
              | exact ⟨_, rfl, FX.out.store _ _, HOZ, BZ⟩
              | exact ⟨_, rfl, FaultAt.new w3 _ _, HO3.out.ext ((Below.refl _ _).alloc (Nat.le_refl _) _), Bq3.alloc Bq3.size _⟩
          case rest =>
            obtain ⟨pb, rfl, FX, HO3, Bq3⟩ := hcut
            obtain ⟨x0, x1, _, _⟩ := FX.out.cells
            clear c1 c2' q0 q4 HGC HF HCE HTC HB0 HB1 FW
            have B3 := Lib.hid (B2.out.trans (Bq3.out.mono B2.out.size))
            cases c2 with
            | zero =>
              have HN2 := Lib.hid (HGN.out HC2.out)
              have HN3 := Lib.hid (graft_tree HC2.out)
              rw [HAC2.out] at HN2 HN3
              rw [show ((0 : Nat) : Int) = 0 from rfl] at x0
              clear HC2 HAC2 HGB HGN
              go_wp2_with fail
              go_roundw
              case rel => exact ⟨k + 1, acc2, by omega, by go_num, HO3, HN3, HN2, Bq3⟩
              case measure => simp [intOf]; omega
            | succ c =>
              have HY := Lib.hid (bundle_bad2 HZ.out HM2.out (HGB.out c HC2.out))
              have hpos : (0 : Int) < (c : Int) + 1 := by omega
              have C := Lib.hid (refBare_any ((c : Int) + 1) wc)
              rw [show ((c + 1 : Nat) : Int) = (c : Int) + 1 from rfl] at x0
              clear HC2 HAC2 HGB HGN
              go_wp2_with fail
              refine C.out.mono ?_
              clear C
              rintro e w4 ⟨rfl, hb4⟩
              have F4 := Lib.hid (F2.out.ext (Bq3.out.trans (hb4.mono Bq3.out.size)))
              have B4 := Lib.hid (B3.out.trans (hb4.mono B3.out.size))
              clear y0 y1 y2 y3
              obtain ⟨y0, y1, y2, y3⟩ := F4.out.cells
              go_wp2_with fail
              obtain ⟨s0, s1, s2⟩ := fault_end F4.out ((c : Int) + 1) (-1) w.heap.size hgw
              rw [HY.out]
              refine bodyPost_ret (v := .tuple #[.string ⟨#[]⟩, .agg #[.int .i64 ((c : Int) + 1), .int .i64 (-1)]]) ?_ rfl ⟨⟨⟨#[]⟩, rfl, rfl⟩, B4.out.trans s2⟩
              simp [results, Tryz.results38, go_sem, s0, s1]
        · obtain rfl : k = l.length := by omega
          have HY := Lib.hid (bundle_good HZ.out HM2.out (grafts_end HGR.out))
          have HAr := Lib.hid (HA.out.row)
          have C := Lib.hid (refPackText_any (.slice oo acc.length oc) acc wr.drew (HAr.out.ext (below_drewN _ _ 1)) (by omega) (right_small HAE.out).2.1)
          have HA2 : Hid (FaultAt wr q 0 a) := FQ.out.ext Bq.out
          have HG2' := Lib.hid (F2.out.ext Bq.out)
          clear x0 x1 y0 y1 y2 y3
          obtain ⟨x0, x1, _, _⟩ := HA2.out.cells
          obtain ⟨y0, y1, y2, y3⟩ := HG2'.out.cells
          have z0 : wr.drew.cell? ⟨q, 0, none⟩ = some (.int .i64 0) := x0
          have z1 : wr.drew.cell? ⟨q, 1, none⟩ = some (.int .i64 a) := x1
          clear HGR HA
          go_wp2_with fail
          go_region_with (go_at_call 79; refine C.out.mono ?_; clear C; rintro e w3 ⟨⟨t, rfl, HT⟩, hb3⟩; obtain ⟨d0, d1, f0, f1, e0, e1, HHH⟩ := packOf_end (hb3.mono (Nat.le_refl wr.heap.size)) HA2.out HG2'.out hgw)
          all_goals
            have hbw3 : Below w.heap.size w w3 := Bw2.out.trans ((below_drewN _ _ 1).trans (hb3.mono Bw2.out.size))
            have S0 := Lib.hid HHH.out.1
            have S1 := Lib.hid HHH.out.2.1
            have S2 := Lib.hid HHH.out.2.2
            clear HHH
            go_wp2_with fail
            rw [HY.out]
            exact bodyPost_ret (v := .tuple #[.string t, .agg #[.int .i64 0, .int .i64 a]]) (by simp [results, Tryz.results38, go_sem, S0.out, S1.out]) rfl ⟨⟨t, by rw [HA1.out]; rfl, HT⟩, hbw3.trans S2.out⟩
end Go.Proofs.YtgchgdkpipanjaaGreatDoor

namespace Go.Proofs.YtgchgdkpipanjaaGreatDoor
open Go Go.RowKit Go.Maps

/-- What the reference's SplitOf hands back. -/
def RSplitPost (r : Er × List (List FileB)) (w : World) (e : Ending) (w' : World) : Prop :=
  (∃ v : Value, e = .returned (.tuple #[v, .agg (erA r.1)]) ∧ Hid (TsOwn w' w.heap.size v r.2)) ∧ Below w.heap.size w w'
theorem ts_fault {w : World} {B g : Nat} {v : Value} {ts : List (List FileB)} {c a : Int} (h : TsOwn w B v ts) (hg : FaultAt w g c a) (x y : Value) : TsOwn ((w.setCell ⟨g, 0, none⟩ x).setCell ⟨g, 1, none⟩ y) B v ts :=
  h.keeps (fault_keeps hg x y) (fun cs ⟨_, _, h⟩ => by injection h with _ h _; exact absurd h (by decide)) (fun cs ⟨_, _, h⟩ => by injection h with _ h _; exact absurd h (by decide))

set_option maxHeartbeats 4000000 in
set_option maxRecDepth 100000 in
theorem refSplit_any (v : Value) (l : List WantB) (s : ByteArray) (w : World) (hv : WRow w v l) (hl : l.length ≤ 100000) (hS : ∀ f ∈ l, SmallW f) (hs : s.size ≤ 1000000) :
    Calls Tryz.prog 80 #[v, .string s] w (RSplitPost (splitLk l (bl s)) w) := by
  have HV := Lib.hid hv
  obtain ⟨g, hg⟩ : ∃ g, w.heap.size = g := ⟨_, rfl⟩
  obtain ⟨wg, hwg⟩ : ∃ wg, w.alloc (.cells #[.int .i64 0, .int .i64 0] 59) = wg := ⟨_, rfl⟩
  have hal : Below w.heap.size w wg := by rw [← hwg]; exact (Below.refl _ _).alloc (Nat.le_refl _) _
  have FG := Lib.hid (show FaultAt wg g 0 0 by rw [← hwg, ← hg]; exact FaultAt.new w 0 0)
  have hgw : w.heap.size ≤ g := Nat.le_of_eq hg
  have BG := Lib.hid hal
  have HWG := Lib.hid hwg
  have HG := Lib.hid hg
  have C := Lib.hid (refLockFault_any v l wg (hv.ext hal) hl hS)
  obtain ⟨ao, cap, rfl⟩ := hv.len
  clear hal hwg hg hv hS
  go_enter Tryz.func80, Tryz.ntmps80
  go_wp2_with fail
  rw [HWG.out, HG.out]
  refine C.out.mono ?_
  clear C
  rintro e w1 ⟨rfl, hb1⟩
  have F1 := Lib.hid (FG.out.ext hb1)
  have B1 := Lib.hid (BG.out.trans (hb1.mono BG.out.size))
  obtain ⟨c, hc⟩ : ∃ c, (lockEr l).code = c := ⟨_, rfl⟩
  obtain ⟨a, ha⟩ : ∃ a : Int, (lockEr l).at?.getD (-1) = a := ⟨_, rfl⟩
  have HC := Lib.hid hc
  have HA := Lib.hid ha
  rw [show erA (lockEr l) = #[.int .i64 c, .int .i64 a] by unfold erA; rw [hc, ha]]
  obtain ⟨q, hq⟩ : ∃ q, w1.heap.size = q := ⟨_, rfl⟩
  obtain ⟨w2, hw2⟩ : ∃ w2, w1.alloc (.cells #[.int .i64 c, .int .i64 a] 59) = w2 := ⟨_, rfl⟩
  have hal2 : Below w1.heap.size w1 w2 := by rw [← hw2]; exact (Below.refl _ _).alloc (Nat.le_refl _) _
  have FQ := Lib.hid (show FaultAt w2 q c a by rw [← hw2, ← hq]; exact FaultAt.new w1 _ _)
  have F2 := Lib.hid (F1.out.ext hal2)
  have B2 := Lib.hid (B1.out.trans (hal2.mono B1.out.size))
  have HW2 := Lib.hid hw2
  have HQ := Lib.hid hq
  have hqw : w.heap.size ≤ q := by rw [← HQ.out]; exact Nat.le_trans hgw (Nat.le_of_lt F1.out.lt)
  have hgq : g ≠ q := by have := F1.out.lt; omega
  clear hb1 hc ha hal2 hw2 hq FG BG F1 B1
  obtain ⟨x0, x1, _, _⟩ := FQ.out.cells
  obtain ⟨y0, y1, y2, y3⟩ := F2.out.cells
  go_upto_region 2 with fail
  rw [HW2.out, HQ.out]
  by_cases hz : c = 0
  rotate_left
  · have hpos : (0 : Int) < (c : Int) := by omega
    have HY : Hid (splitLk l (bl s) = (lockEr l, [])) := split_lock (by rw [HC.out]; exact hz)
    clear hz
    go_wp2_with fail
    go_region
    all_goals go_wp2_with fail
    obtain ⟨s0, s1, s2⟩ := fault_end F2.out c a w.heap.size hgw
    rw [HY.out]
    refine bodyPost_ret (v := .tuple #[.slice none 0 0, .agg #[.int .i64 c, .int .i64 a]]) ?_ rfl ⟨⟨_, by unfold erA; rw [HC.out, HA.out], TsOwn.nil _ _⟩, (B2.out.trans s2).drew⟩
    simp [results, Tryz.results80, go_sem, s0, s1]
  have HZ : Hid ((lockEr l).code = 0) := by show _ = _; rw [HC.out]; exact hz
  have OK := Lib.hid ((lockOk_iff l).1 HZ.out)
  have hl20 := OK.out.few
  obtain rfl : c = 0 := hz
  rw [show ((0 : Nat) : Int) = 0 from rfl] at x0 ⊢
  have C := Lib.hid (refReadPack_any s w2 hs)
  go_wp2_with fail
  refine C.out.mono ?_
  clear C x0 x1 y0 y1 y2 y3
  rintro e w3 ⟨⟨av, rfl, HR⟩, hb3⟩
  obtain ⟨c2, hc2⟩ : ∃ c, (readEr (bl s)).code = c := ⟨_, rfl⟩
  obtain ⟨a2, ha2⟩ : ∃ a : Int, (readEr (bl s)).at?.getD (-1) = a := ⟨_, rfl⟩
  have HC2 := Lib.hid hc2
  have HA2 := Lib.hid ha2
  rw [show erA (readEr (bl s)) = #[.int .i64 c2, .int .i64 a2] by unfold erA; rw [hc2, ha2]]
  have FQ3 := Lib.hid (FQ.out.ext hb3)
  have F3 := Lib.hid (F2.out.ext hb3)
  have B3 := Lib.hid (B2.out.trans (hb3.mono B2.out.size))
  have FQ4 := Lib.hid (FQ3.out.store c2 a2)
  have F4 := Lib.hid (F3.out.other hgq (.int .i64 c2) (.int .i64 a2))
  have B4 := Lib.hid (store_below B3.out hqw (.int .i64 c2) (.int .i64 a2))
  have HR4 := Lib.hid (HR.out.store FQ3.out (.int .i64 c2) (.int .i64 a2))
  obtain ⟨x0, x1, x2, x3⟩ := FQ3.out.cells
  obtain ⟨w4, hw4⟩ : ∃ w4, (w3.setCell ⟨q, 0, none⟩ (.int .i64 c2)).setCell ⟨q, 1, none⟩ (.int .i64 a2) = w4 := ⟨_, rfl⟩
  rw [hw4] at FQ4 F4 B4 HR4
  have HW4 := Lib.hid hw4
  clear hb3 hc2 ha2 hw4 F3 FQ F2 HR
  go_upto_region 5 with fail
  rw [HW4.out]
  clear x0 x1 x2 x3 FQ3
  obtain ⟨x0, x1, _, _⟩ := FQ4.out.cells
  obtain ⟨y0, y1, y2, y3⟩ := F4.out.cells
  by_cases hz : c2 = 0
  rotate_left
  · have hpos : (0 : Int) < (c2 : Int) := by omega
    have HY : Hid (splitLk l (bl s) = (readEr (bl s), [])) := split_read HZ.out (by rw [HC2.out]; exact hz)
    clear hz
    go_wp2_with fail
    go_region
    all_goals go_wp2_with fail
    obtain ⟨s0, s1, s2⟩ := fault_end F4.out c2 a2 w.heap.size hgw
    rw [HY.out]
    refine bodyPost_ret (v := .tuple #[.slice none 0 0, .agg #[.int .i64 c2, .int .i64 a2]]) ?_ rfl ⟨⟨_, by unfold erA; rw [HC2.out, HA2.out], TsOwn.nil _ _⟩, (B4.out.trans s2).drew⟩
    simp [results, Tryz.results80, go_sem, s0, s1]
  obtain rfl : c2 = 0 := hz
  rw [show ((0 : Nat) : Int) = 0 from rfl] at x0 FQ4 ⊢
  have HF := Lib.hid (split_from HZ.out HC2.out)
  have HRE := Lib.hid (read_back HC2.out).1
  have HA1 : Hid (a2 = -1) := by
    show _ = _
    rw [← HA2.out, (read_back HC2.out).2.2]; rfl
  obtain ⟨all, hall⟩ : ∃ all, readT (bl s) = all := ⟨_, rfl⟩
  rw [hall] at HF HRE HR4
  have hal30 := (right_small HRE.out).1
  obtain ⟨aao, acap, rfl, _⟩ := HR4.out.1
  clear hall
  obtain ⟨we, rfl⟩ : ∃ we, we = w4 := ⟨_, rfl⟩
  go_wp2_with fail
  clear x0 x1 y0 y1 y2 y3
  go_loopw [8, 9] (fun tv i wr => ∃ (k : Nat) (ts : List (List FileB)), k ≤ l.length ∧ i = .int .i64 k ∧ Hid (TsOwn wr we.heap.size tv ts) ∧ ts.length ≤ k ∧ Hid (SStep all l k ts) ∧ Hid (Below we.heap.size we wr)) (fun _ i _ => l.length - (intOf i).toNat)
  case atStart => exact ⟨0, [], Nat.zero_le _, rfl, TsOwn.nil _ _, Nat.le_refl _, SStep.zero _ _, Below.refl _ _⟩
  case round =>
    obtain ⟨k, ts, hk, rfl, HT, htl, HS, Bq⟩ := hrel
    obtain ⟨tso, tc, rfl⟩ := HT.out.shape
    have Bw := Lib.hid (B4.out.trans (Bq.out.mono B4.out.size))
    by_cases hlt : k < l.length
    · obtain ⟨ba, off, rfl, hcell⟩ := HV.out.at hlt
      have HCE : Hid (∀ W, Below we.heap.size we W → W.cell? ⟨ba, off + k * 5, none⟩ = some (.string l[k].name) ∧ W.cell? ⟨ba, off + k * 5 + 4, none⟩ = some (.int .i64 l[k].sum)) := fun W hW => by
        obtain ⟨q0, _, _, _, q4⟩ := hcell W (B4.out.trans (hW.mono B4.out.size))
        exact ⟨q0, q4⟩
      have hnm := want_name (OK.out.each l[k] (List.getElem_mem hlt))
      have HS1 := Lib.hid (fun c => HS.out.tree (c := c) hlt HF.out)
      have HS2 := Lib.hid (HS.out.sum hlt HF.out)
      have HS3 := Lib.hid (HS.out.next hlt)
      clear hcell HS
      obtain ⟨f, hf⟩ : ∃ f, l[k] = f := ⟨_, rfl⟩
      rw [hf] at HCE hnm HS1 HS2 HS3
      clear hf
      obtain ⟨q0, _⟩ := HCE.out wr Bq.out
      have C := Lib.hid (refUnder_any (.slice aao all.length acap) all f.name wr (HR4.out.ext Bq.out).1 (by omega) (right_small HRE.out).2.1 (by omega))
      go_wp2_with fail
      refine C.out.mono ?_
      clear C q0
      rintro e w3 ⟨⟨uv, rfl, HU⟩, hb3⟩
      have Bq3 := Lib.hid (Bq.out.trans (hb3.mono Bq.out.size))
      have HT3 := Lib.hid (HT.out.ext hb3)
      have HU3 := Lib.hid (HU.out.low Bq.out.size)
      have hul := underL_len all f.name
      have HUS := Lib.hid (underL_small (d := f.name) (right_small HRE.out).2.1)
      obtain ⟨u, hu⟩ : ∃ u, underL all f.name = u := ⟨_, rfl⟩
      rw [hu] at HU3 hul HUS HS1 HS2 HS3
      obtain ⟨uo, n3, uc, rfl⟩ : ∃ o n c, uv = .slice o n c := by obtain ⟨o, c, e⟩ := HU3.out.shape; exact ⟨o, _, c, e⟩
      have C := Lib.hid (refTreeSum_any (.slice uo n3 uc) u w3 HU3.out.row (by omega) HUS.out)
      clear hb3 HU hu HT
      go_wp2_with fail
      refine C.out.mono ?_
      clear C
      rintro e w4 ⟨rfl, hb4⟩
      have Bq4 := Lib.hid (Bq3.out.trans (hb4.mono Bq3.out.size))
      have HT4 := Lib.hid (HT3.out.ext hb4)
      have HU4 := Lib.hid (HU3.out.ext hb4)
      rw [show ((sumL (packT u) : Nat) : Int) = treeSum u from rfl]
      obtain ⟨z, hzz⟩ : ∃ z, treeSum u = z := ⟨_, rfl⟩
      obtain ⟨c2, hc2⟩ : ∃ c, (treeEr u).code = c := ⟨_, rfl⟩
      obtain ⟨a3, ha3⟩ : ∃ a : Int, (treeEr u).at?.getD (-1) = a := ⟨_, rfl⟩
      rw [show erA (treeEr u) = #[.int .i64 c2, .int .i64 a3] by unfold erA; rw [hc2, ha3]]
      rw [hzz] at HS2 HS3 ⊢
      rw [hc2] at HS1 HS2 HS3
      obtain ⟨pb, hpb⟩ : ∃ pb, w4.heap.size = pb := ⟨_, rfl⟩
      obtain ⟨w5, hw5⟩ : ∃ w5, w4.alloc (.cells #[.int .i64 c2, .int .i64 a3] 59) = w5 := ⟨_, rfl⟩
      have hal5 : Below w4.heap.size w4 w5 := by rw [← hw5]; exact (Below.refl _ _).alloc (Nat.le_refl _) _
      have FX := Lib.hid (show FaultAt w5 pb c2 a3 by rw [← hw5, ← hpb]; exact FaultAt.new w4 _ _)
      have Bq5 := Lib.hid (Bq4.out.trans (hal5.mono Bq4.out.size))
      have B5 := Lib.hid (B4.out.trans (Bq5.out.mono B4.out.size))
      have HT5 := Lib.hid (HT4.out.ext hal5)
      have HU5 := Lib.hid (HU4.out.ext hal5)
      have HPB := Lib.hid hpb
      have HW5 := Lib.hid hw5
      have F5 := Lib.hid (F4.out.ext Bq5.out)
      obtain ⟨x0, x1, _, _⟩ := FX.out.cells
      obtain ⟨y0, y1, y2, y3⟩ := F5.out.cells
      obtain ⟨_, q4⟩ := HCE.out w5 Bq5.out
      clear hb4 HT3 HU3 HT4 HU4 hzz hc2 ha3 hpb hw5 hal5 HCE
      go_upto_region 13 with fail
      rw [HW5.out, HPB.out]
      cases c2 with
      | succ c =>
        have HY := Lib.hid (HS1.out c rfl)
        have hpos : (0 : Int) < (c : Int) + 1 := by omega
        rw [show ((c + 1 : Nat) : Int) = (c : Int) + 1 from rfl] at x0 ⊢
        clear HS1 HS2 HS3 HT5 HU5
        go_wp2_with fail
        go_region
        all_goals go_wp2_with fail
        obtain ⟨s0, s1, s2⟩ := fault_end F5.out ((c : Int) + 1) (k : Int) w.heap.size hgw
        rw [HY.out]
        refine bodyPost_ret (v := .tuple #[.slice none 0 0, .agg #[.int .i64 ((c : Int) + 1), .int .i64 k]]) ?_ rfl ⟨⟨_, rfl, TsOwn.nil _ _⟩, (B5.out.trans s2).drew⟩
        simp [results, Tryz.results80, go_sem, s0, s1]
      | zero =>
        have HN1 := Lib.hid (HS2.out rfl)
        have HN2 := Lib.hid (HS3.out rfl)
        rw [show ((0 : Nat) : Int) = 0 from rfl] at x0 ⊢
        clear HS1 HS2 HS3
        by_cases he : z = f.sum
        · have HN := Lib.hid (HN2.out he)
          have e1 : (z == f.sum) = true := by rw [he]; exact beq_self_eq_true _
          clear he HN1 HN2
          go_wp2_with (at_builtin; refine wpList_append_tree rfl _ _ rfl we.heap.size (.slice tso ts.length tc) ts rfl HT5.out (.slice uo n3 uc) u HU5.out rfl (by omega) Bq5.out.size ?_)
          intro v6 w6 HT6 HB6'
          have B6 := Lib.hid (HB6'.out we Bq5.out)
          clear HB6' HT5 HU5 q4 e1
          go_wp2_with fail
          go_roundw
          case rel => exact ⟨k + 1, ts ++ [u], by omega, by go_num, HT6, by simp; omega, HN, B6⟩
          case measure => simp [intOf]; omega
        · have HY := Lib.hid (HN1.out he)
          have e1 : (z == f.sum) = false := by rw [beq_eq_false_iff_ne]; exact he
          clear he HN1 HN2 HT5 HU5
          go_wp2_with fail
          obtain ⟨s0, s1, s2⟩ := fault_end F5.out 12 (k : Int) w.heap.size hgw
          rw [HY.out]
          refine bodyPost_ret (v := .tuple #[.slice none 0 0, .agg #[.int .i64 12, .int .i64 k]]) ?_ rfl ⟨⟨_, rfl, TsOwn.nil _ _⟩, B5.out.trans s2⟩
          simp [results, Tryz.results80, go_sem, s0, s1]
    · obtain rfl : k = l.length := by omega
      have HY := Lib.hid (HS.out.done HF.out)
      have F5 := Lib.hid (F4.out.ext Bq.out)
      have FX := Lib.hid (FQ4.out.ext Bq.out)
      obtain ⟨x0, x1, _, _⟩ := FX.out.cells
      obtain ⟨y0, y1, y2, y3⟩ := F5.out.cells
      clear HS
      go_wp2_with fail
      go_region
      all_goals go_wp2_with fail
      obtain ⟨s0, s1, s2⟩ := fault_end F5.out 0 a2 w.heap.size hgw
      have HTZ := Lib.hid (ts_fault HT.out F5.out (.int .i64 0) (.int .i64 a2))
      rw [HY.out]
      refine bodyPost_ret (v := .tuple #[.slice tso ts.length tc, .agg #[.int .i64 0, .int .i64 a2]]) ?_ rfl ⟨⟨_, by rw [HA1.out]; rfl, (HTZ.out.ext ((below_drewN _ _ 1))).low B4.out.size⟩, (Bw.out.trans s2).drew⟩
      simp [results, Tryz.results80, go_sem, s0, s1]
end Go.Proofs.YtgchgdkpipanjaaGreatDoor

namespace Go.Proofs.YtgchgdkpipanjaaGreatDoor
open Go Go.RowKit Go.Maps

/-- What the reference's LoadOf hands back, and leaves. -/
def RLoadPost (W0 : World) (B b : Nat) (r : Er × HeldB) (w : World) (e : Ending) (w' : World) : Prop := e = .returned (.agg (erA r.1)) ∧ Hid (RHeldIs W0 w' B b r.2) ∧ Hid (Keeps RHeldRow B w w')
/-- Where a load is: going on, or ended. -/
def LSt (R : Er × HeldB) (ts : List (List FileB)) (k : Nat) (hc : HeldB) (c : Nat) (a : Int) : Prop :=
  (c = 0 ∧ a = -1 ∧ R = loadGo k hc (ts.drop k)) ∨ (c ≠ 0 ∧ R.1.code = c ∧ R.1.at?.getD (-1) = a ∧ R.2 = hc)
theorem LSt.next {R : Er × HeldB} {ts : List (List FileB)} {k : Nat} {hc : HeldB} {a : Int} (h : LSt R ts k hc 0 a) (hk : k < ts.length) (h0 : (putH hc ts[k]).1.code = 0) : LSt R ts (k + 1) (putH hc ts[k]).2.2 0 a := by
  rcases h with ⟨_, ha, h⟩ | ⟨h, _⟩
  · refine .inl ⟨rfl, ha, ?_⟩
    rw [h, loadGo_step hk, if_neg (by omega)]
  · exact absurd rfl h
theorem LSt.bad {R : Er × HeldB} {ts : List (List FileB)} {k c : Nat} {hc : HeldB} {a : Int} (h : LSt R ts k hc 0 a) (hk : k < ts.length) (h0 : (putH hc ts[k]).1.code = c + 1) : LSt R ts (k + 1) (putH hc ts[k]).2.2 (c + 1) k := by
  rcases h with ⟨_, ha, h⟩ | ⟨h, _⟩
  · refine .inr ⟨Nat.succ_ne_zero _, ?_⟩
    rw [h, loadGo_step hk, if_pos (by omega), h0]
    exact ⟨rfl, rfl, rfl⟩
  · exact absurd rfl h
theorem LSt.done {R : Er × HeldB} {ts : List (List FileB)} {k c : Nat} {hc : HeldB} {a : Int} (h : LSt R ts k hc c a) (hk : ¬ k < ts.length ∨ c ≠ 0) : R.2 = hc ∧ erA R.1 = #[.int .i64 c, .int .i64 a] := by
  rcases h with ⟨rfl, rfl, h⟩ | ⟨_, h1, h2, h3⟩
  · rcases hk with hk | hk
    · rw [List.drop_eq_nil_of_le (by omega)] at h
      subst h
      exact ⟨rfl, rfl⟩
    · exact absurd rfl hk
  · exact ⟨h3, by unfold erA; rw [h1, h2]⟩
theorem LSt.start (h : HeldB) (l : List WantB) (s : List UInt8) (hn : (splitLk l s).1.code ≠ 0 ∨ (splitLk l s).1 = ⟨0, none⟩) : LSt (loadLk h l s) (splitLk l s).2 0 h (splitLk l s).1.code ((splitLk l s).1.at?.getD (-1)) := by
  by_cases hz : (splitLk l s).1.code = 0
  · rcases hn with hn | hn
    · exact absurd hz hn
    · rw [hn]
      exact .inl ⟨rfl, rfl, load_from hz⟩
  · refine .inr ⟨hz, ?_⟩
    rw [load_split hz]
    exact ⟨rfl, rfl, rfl⟩
theorem splitLk_zero (l : List WantB) (s : List UInt8) : (splitLk l s).1.code ≠ 0 ∨ (splitLk l s).1 = ⟨0, none⟩ := by
  unfold splitLk
  split
  · rename_i h; exact .inl h
  · split
    · rename_i h; exact .inl h
    · split
      · rename_i h; exact .inl h
      · exact .inr rfl
theorem rheldRow_ts (cs : Array Value) : ¬ RHeldRow (.cells cs 48 (0, 0)) := fun ⟨_, _, h⟩ => by injection h with _ h _; exact absurd h (by decide)
theorem rheldRow_files (cs : Array Value) : ¬ RHeldRow (.cells cs 109 (0, 0)) := fun ⟨_, _, h⟩ => by injection h with _ h _; exact absurd h (by decide)
theorem FaultAt.keeps {K : Obj → Prop} {B : Nat} {w w' : World} {q : Nat} {c a : Int} (h : FaultAt w q c a) (hk : Keeps K B w w') (h1 : ∀ cs, ¬ K (.cells cs 59 (0, 0))) : FaultAt w' q c a := hk.keep q _ h (h1 _)

set_option maxHeartbeats 4000000 in
set_option maxRecDepth 100000 in
theorem refLoad_any {W0 : World} (B b : Nat) (hh : HeldB) (v : Value) (l : List WantB) (s : ByteArray) (w : World) (hi : RHeldIs W0 w B b hh) (ok : HeldOk hh) (hW : Below W0.heap.size W0 w) (hWB : W0.heap.size ≤ B) (hB : B ≤ w.heap.size) (hv : WRow w v l) (hl : l.length ≤ 100000) (hS : ∀ f ∈ l, SmallW f) (hs : s.size ≤ 1000000) :
    Calls Tryz.prog 39 #[.pointer (some ⟨b, 0, none⟩), v, .string s] w (RLoadPost W0 B b (loadLk hh l (bl s)) w) := by
  have HW0 := Lib.hid hW
  obtain ⟨g, hg⟩ : ∃ g, w.heap.size = g := ⟨_, rfl⟩
  obtain ⟨wg, hwg⟩ : ∃ wg, w.alloc (.cells #[.int .i64 0, .int .i64 0] 59) = wg := ⟨_, rfl⟩
  have hal : Below w.heap.size w wg := by rw [← hwg]; exact (Below.refl _ _).alloc (Nat.le_refl _) _
  have FG := Lib.hid (show FaultAt wg g 0 0 by rw [← hwg, ← hg]; exact FaultAt.new w 0 0)
  have hgw : w.heap.size ≤ g := Nat.le_of_eq hg
  have BG := Lib.hid hal
  have HWG := Lib.hid hwg
  have HG := Lib.hid hg
  have HRI := Lib.hid (hi.below hal)
  have HOK := Lib.hid ok
  have C := Lib.hid (refSplit_any v l s wg (hv.ext hal) hl hS hs)
  have HST := Lib.hid (LSt.start hh l (bl s) (splitLk_zero _ _))
  have HEA := Lib.hid (splitLk_each l (bl s))
  have hlen := splitLk_len l (bl s)
  obtain ⟨R, hR⟩ : ∃ R, loadLk hh l (bl s) = R := ⟨_, rfl⟩
  rw [hR] at HST ⊢
  obtain ⟨sp, hsp⟩ : ∃ sp, splitLk l (bl s) = sp := ⟨_, rfl⟩
  rw [hsp] at HST HEA hlen C
  obtain ⟨⟨c, at?⟩, ts⟩ := sp
  obtain ⟨a, ha⟩ : ∃ a : Int, at?.getD (-1) = a := ⟨_, rfl⟩
  have HST : Hid (LSt R ts 0 hh c a) := by rw [← ha]; exact HST
  have hts : ts.length ≤ 100000 := by have := hlen; simp only at this; omega
  have C : Hid (Calls Tryz.prog 80 #[v, .string s] wg fun e w' => (∃ v : Value, e = .returned (.tuple #[v, .agg #[.int .i64 c, .int .i64 a]]) ∧ Hid (TsOwn w' wg.heap.size v ts)) ∧ Below wg.heap.size wg w') := by
    show Calls _ _ _ _ _
    rw [← ha]; exact C.out
  obtain ⟨ao, cap, rfl⟩ := hv.len
  clear hal hwg hg hv hS hR hsp ha hlen hi ok hW
  go_enter Tryz.func39, Tryz.ntmps39
  go_wp2_with fail
  rw [HWG.out, HG.out]
  refine C.out.mono ?_
  clear C
  rintro e w1 ⟨⟨tv, rfl, HT⟩, hb1⟩
  have F1 := Lib.hid (FG.out.ext hb1)
  have B1 := Lib.hid (BG.out.trans (hb1.mono BG.out.size))
  obtain ⟨q, hq⟩ : ∃ q, w1.heap.size = q := ⟨_, rfl⟩
  obtain ⟨w2, hw2⟩ : ∃ w2, w1.alloc (.cells #[.int .i64 c, .int .i64 a] 59) = w2 := ⟨_, rfl⟩
  have hal2 : Below w1.heap.size w1 w2 := by rw [← hw2]; exact (Below.refl _ _).alloc (Nat.le_refl _) _
  have FQ := Lib.hid (show FaultAt w2 q c a by rw [← hw2, ← hq]; exact FaultAt.new w1 _ _)
  have F2 := Lib.hid (F1.out.ext hal2)
  have B2 := Lib.hid (B1.out.trans (hal2.mono B1.out.size))
  have HW2 := Lib.hid hw2
  have HQ := Lib.hid hq
  have HRI2 := Lib.hid (HRI.out.below (hb1.trans (hal2.mono hb1.size)))
  have HT2 := Lib.hid ((HT.out.ext hal2).low (Nat.le_trans hB BG.out.size))
  have hqw : w.heap.size ≤ q := by rw [← HQ.out]; exact Nat.le_trans hgw (Nat.le_of_lt F1.out.lt)
  have hgq : g ≠ q := by have := F1.out.lt; omega
  have K2 : Hid (Keeps RHeldRow B w w2) := Keeps.of B2.out hB
  obtain ⟨n, hn⟩ : ∃ n, ts.length = n := ⟨_, rfl⟩
  have HN := Lib.hid hn
  obtain ⟨tso, tc, rfl⟩ := HT.out.shape
  rw [hn] at HT2 hts ⊢
  clear hb1 hal2 hw2 hq FG BG F1 B1 HT hn HRI
  go_upto_region 2 with fail
  rw [HW2.out, HQ.out]
  go_wp2_with fail
  go_loopw [9] (fun i wr => ∃ (k : Nat) (hc : HeldB) (c : Nat) (a : Int), k ≤ n ∧ i = .int .i64 k ∧ Hid (RHeldIs W0 wr B b hc) ∧ Hid (HeldOk hc) ∧ Hid (LSt R ts k hc c a) ∧ Hid (FaultAt wr q c a) ∧ Hid (FaultAt wr g 0 0) ∧ Hid (TsOwn wr B (.slice tso n tc) ts) ∧ Hid (Keeps RHeldRow B w wr)) (fun i _ => n - (intOf i).toNat)
  case atStart => exact ⟨0, hh, c, a, Nat.zero_le _, rfl, HRI2, HOK, HST, FQ, F2, HT2, K2⟩
  case round =>
    clear HRI2 HST FQ F2 HT2 K2 HOK
    obtain ⟨k, hc, c, a, hk, rfl, HRI, HOK, HST, FQ, FG, HT, K⟩ := hrel
    obtain ⟨x0, x1, x2, x3⟩ := FQ.out.cells
    by_cases hlt : k < n
    · by_cases hz : c = 0
      · subst hz
        rw [show ((0 : Nat) : Int) = 0 from rfl] at x0
        have hkt : k < ts.length := by rw [HN.out]; exact hlt
        have hBr : B ≤ wr.heap.size := Nat.le_trans hB K.out.below.size
        obtain ⟨gt, tv, rfl, hgl, hgc, HFO⟩ := HT.out.at hkt
        have HTR : Hid ((treeEr ts[k]).code = 0) := HEA.out _ (List.getElem_mem hkt)
        have HB1 := Lib.hid (fun c => HST.out.bad (c := c) hkt)
        have HB2 := Lib.hid (HST.out.next hkt)
        have HBW := Lib.hid (HW0.out.trans (K.out.below.mono hWB))
        have C := Lib.hid (refHPut_any (W0 := W0) B b hc tv ts[k] wr HBW.out (.inr HFO) (by have := (right_small HTR.out).1; omega) (right_small HTR.out).2.1 HRI.out (by have h1 := HOK.out.few; have h2 := HOK.out.len; omega) hBr)
        have HOK2 := Lib.hid (putH_ok ts[k] HOK.out)
        obtain ⟨t, ht⟩ : ∃ t, ts[k] = t := ⟨_, rfl⟩
        rw [ht] at HTR HB1 HB2 C HOK2
        clear ht HRI HOK HFO HST
        go_wp2_with fail
        refine C.out.mono ?_
        clear C hgc
        rintro e w3 ⟨rfl, hi3, k3, _⟩
        have HRI3 := Lib.hid hi3
        have K3 := Lib.hid (K.out.trans k3)
        have FQ3 := Lib.hid (FQ.out.keeps k3 (fun cs => notRH cs (0, 0)))
        have FG3 := Lib.hid (FG.out.keeps k3 (fun cs => notRH cs (0, 0)))
        have HT3 := Lib.hid (HT.out.keeps k3 rheldRow_ts rheldRow_files)
        clear hi3 k3 FQ FG HT K x0 x1 x2 x3
        obtain ⟨r, hr⟩ : ∃ r, putH hc t = r := ⟨_, rfl⟩
        rw [hr] at HRI3 HOK2 HB1 HB2 ⊢
        clear hr
        obtain ⟨⟨rc, ra⟩, rn, rh⟩ := r
        obtain ⟨a3, ha3⟩ : ∃ a : Int, ra.getD (-1) = a := ⟨_, rfl⟩
        rw [show erA ((⟨rc, ra⟩ : Er), rn, rh).1 = #[.int .i64 rc, .int .i64 a3] by rw [← ha3]; rfl]
        obtain ⟨p, hp⟩ : ∃ p, w3.heap.size = p := ⟨_, rfl⟩
        obtain ⟨w4, hw4⟩ : ∃ w4, w3.alloc (.cells #[.int .i64 rc, .int .i64 a3] 59) = w4 := ⟨_, rfl⟩
        have hal4 : Below w3.heap.size w3 w4 := by rw [← hw4]; exact (Below.refl _ _).alloc (Nat.le_refl _) _
        have FP := Lib.hid (show FaultAt w4 p rc a3 by rw [← hw4, ← hp]; exact FaultAt.new w3 _ _)
        have FQ4 := Lib.hid (FQ3.out.ext hal4)
        have FG4 := Lib.hid (FG3.out.ext hal4)
        have HT4 := Lib.hid (HT3.out.ext hal4)
        have HRI4 := Lib.hid (HRI3.out.below hal4)
        have K4 := Lib.hid (K3.out.fresh (hal4.mono K3.out.below.size) hB)
        have HW4 := Lib.hid hw4
        have HP := Lib.hid hp
        clear ha3 hp hw4 hal4 FQ3 FG3 HT3 HRI3 K3
        obtain ⟨z0, z1, _, _⟩ := FP.out.cells
        obtain ⟨x0, x1, x2, x3⟩ := FQ4.out.cells
        go_upto_region 6 with fail
        rw [HW4.out, HP.out]
        cases rc with
        | zero =>
          have HST2 := Lib.hid (HB2.out rfl)
          rw [show ((0 : Nat) : Int) = 0 from rfl] at z0
          clear HB1 HB2
          go_wp2_with fail
          go_roundw
          case rel => exact ⟨k + 1, rh, 0, a, by omega, by go_num, HRI4, HOK2, HST2, FQ4, FG4, HT4, K4⟩
          case measure => simp [intOf]; omega
        | succ rc =>
          have HST2 := Lib.hid (HB1.out rc rfl)
          have hpos : (0 : Int) < (rc : Int) + 1 := by omega
          rw [show ((rc + 1 : Nat) : Int) = (rc : Int) + 1 from rfl] at z0
          have HRI5 := Lib.hid (HRI4.out.faulted FQ4.out (.int .i64 ((rc + 1 : Nat) : Int)) (.int .i64 (k : Int)))
          have FQ5 := Lib.hid (FQ4.out.store ((rc + 1 : Nat) : Int) (k : Int))
          have FG5 := Lib.hid (FG4.out.other hgq (.int .i64 ((rc + 1 : Nat) : Int)) (.int .i64 (k : Int)))
          have HT5 := Lib.hid (ts_fault HT4.out FQ4.out (.int .i64 ((rc + 1 : Nat) : Int)) (.int .i64 (k : Int)))
          have K5 := Lib.hid (K4.out.fresh (fault_end FQ4.out ((rc + 1 : Nat) : Int) (k : Int) w.heap.size hqw).2.2 hB)
          clear HB1 HB2
          go_wp2_with fail
          go_roundw
          case rel => exact ⟨k + 1, rh, rc + 1, k, by omega, by go_num, HRI5, HOK2, HST2, FQ5, FG5, HT5, K5⟩
          case measure => simp [intOf]; omega
      · have HD := Lib.hid (HST.out.done (.inr hz))
        have e0 : ((c : Int) == 0) = false := by rw [beq_eq_false_iff_ne]; omega
        obtain ⟨y0, y1, y2, y3⟩ := FG.out.cells
        clear HST hz
        go_wp2_with fail
        obtain ⟨s0, s1, s2⟩ := fault_end FG.out c a w.heap.size hgw
        have HRZ := Lib.hid (HRI.out.faulted FG.out (.int .i64 c) (.int .i64 a))
        refine bodyPost_ret (v := .agg #[.int .i64 c, .int .i64 a]) ?_ rfl ⟨by rw [HD.out.2], by rw [HD.out.1]; exact HRZ, K.out.fresh s2 hB⟩
        simp [results, Tryz.results39, go_sem, s0, s1]
    · obtain rfl : k = n := by omega
      have HD := Lib.hid (HST.out.done (.inl (by rw [HN.out]; exact hlt)))
      obtain ⟨y0, y1, y2, y3⟩ := FG.out.cells
      clear HST
      go_wp2_with fail
      obtain ⟨s0, s1, s2⟩ := fault_end FG.out c a w.heap.size hgw
      have HRZ := Lib.hid (HRI.out.faulted FG.out (.int .i64 c) (.int .i64 a))
      refine bodyPost_ret (v := .agg #[.int .i64 c, .int .i64 a]) ?_ rfl ⟨by rw [HD.out.2], by rw [HD.out.1]; exact HRZ, K.out.fresh s2 hB⟩
      simp [results, Tryz.results39, go_sem, s0, s1]
end Go.Proofs.YtgchgdkpipanjaaGreatDoor
