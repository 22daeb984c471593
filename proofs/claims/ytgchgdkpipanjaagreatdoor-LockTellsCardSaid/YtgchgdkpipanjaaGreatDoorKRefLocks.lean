/- The reference's FindWant, SameWants, LockFault: contracts; the law's longWants. The reference's LockFault, LockText: contracts. The reference's DropWant, SetWant: contracts. The reference's ReadLock: the contract. -/
import Derived.Test.YtgchgdkpipanjaaGreatDoorKLockAll
import Derived.Test.YtgchgdkpipanjaaGreatDoorKWantAll
import Derived.Test.YtgchgdkpipanjaaGreatDoorKRefWantsUp
import Derived.Test.YtgchgdkpipanjaaGreatDoorKTold
import Derived.Test.YtgchgdkpipanjaaGreatDoorKFiles
import Derived.Test.YtgchgdkpipanjaaGreatDoorKWanted
import Derived.Test.YtgchgdkpipanjaaGreatDoorKRefTreeUp
import Derived.BigQuiet
import Derived.Test.YtgchgdkpipanjaaGreatDoorKWantAppends
import Derived.Deep.RegionLaw
import Derived.Test.YtgchgdkpipanjaaGreatDoorKLockRead
import Derived.Test.YtgchgdkpipanjaaGreatDoorKRefPathed
namespace Go.Proofs.YtgchgdkpipanjaaGreatDoor
open Go Go.RowKit

set_option maxHeartbeats 1000000 in
set_option maxRecDepth 100000 in
theorem refFindWant_any (v : Value) (l : List WantB) (p : ByteArray) (w : World) (hv : WRow w v l) (hl : l.length ≤ 100000) :
    Calls Tryz.prog 35 #[v, .string p] w (WantIxPost l p w) := by
  have HV := Lib.hid hv
  obtain ⟨ao, cap, rfl⟩ := hv.len
  clear hv
  go_enter Tryz.func35, Tryz.ntmps35
  go_wp2_with fail
  go_loopw [5] (fun i wr => ∃ k : Nat, k ≤ l.length ∧ i = .int .i64 k ∧ Hid (∀ f ∈ l.take k, f.name ≠ p) ∧ Below w.heap.size w wr) (fun i _ => l.length - (intOf i).toNat)
  case atStart => exact ⟨0, Nat.zero_le _, rfl, (fun f h => by cases h), Below.refl _ _⟩
  case round =>
    obtain ⟨k, hk, rfl, HA, hb⟩ := hrel
    by_cases hlt : k < l.length
    · obtain ⟨b, off, rfl, hcell⟩ := HV.out.at hlt
      obtain ⟨q0, _, _, _, _⟩ := hcell wr hb
      have HT : Hid (l[k].name ≠ p → ∀ f ∈ l.take (k + 1), f.name ≠ p) := fun hne f hf => by
        rw [List.take_succ_eq_append_getElem hlt] at hf
        rcases List.mem_append.1 hf with h | h
        · exact HA.out f h
        · obtain rfl := List.mem_singleton.1 h; exact hne
      have eq := str_eqb l[k].name p
      by_cases hq : l[k].name = p
      · have HQ := Lib.hid (findW_first HA.out hlt hq)
        rw [decide_eq_true hq] at eq
        obtain ⟨f, hf⟩ : ∃ f, l[k] = f := ⟨_, rfl⟩
        rw [hf] at q0 eq
        clear hq HT HA hf hcell
        go_wp2_with fail
        go_ret
        exact ⟨by rw [HQ.out]; rfl, hb⟩
      · have HQ := Lib.hid (HT.out hq)
        rw [decide_eq_false hq] at eq
        obtain ⟨f, hf⟩ : ∃ f, l[k] = f := ⟨_, rfl⟩
        rw [hf] at q0 eq
        clear hq HT HA hf hcell
        go_wp2_with fail
        go_roundw
        case rel => exact ⟨k + 1, by omega, by go_num, HQ, hb⟩
        case measure => simp [intOf]; omega
    · obtain rfl : k = l.length := by omega
      have HQ : Hid (∀ f ∈ l, f.name ≠ p) := by have := HA.out; rwa [List.take_length] at this
      clear HA
      go_wp2_with fail
      go_ret
      exact ⟨by rw [findW_none.2 HQ.out]; rfl, hb⟩

theorem want_eq (f g : WantB) : f = g ↔ f.name = g.name ∧ f.url = g.url ∧ f.kind = g.kind ∧ f.strip = g.strip ∧ f.sum = g.sum := by cases f; cases g; simp
theorem int_eqb (a b : Int) : (a == b) = decide (a = b) := by
  by_cases h : a = b
  · subst h; simp
  · rw [decide_eq_false h, beq_eq_false_iff_ne]; exact h

set_option maxHeartbeats 2000000 in
set_option maxRecDepth 100000 in
theorem sameWants_any {w : World} {v u : Value} {l m : List WantB} (hv : WRow w v l) (hu : WRow w u m) (hn : l.length ≤ 1000000) :
    Calls Tryz.prog 12 #[v, u] w fun e w' => e = .returned (.bool (decide (l = m))) ∧ Below w.heap.size w w' := by
  have HV := Lib.hid hv
  have HU := Lib.hid hu
  obtain ⟨ao, cap, rfl⟩ := hv.len
  obtain ⟨ao2, cap2, rfl⟩ := hu.len
  clear hv hu
  by_cases hlen : l.length = m.length
  · have HL := Lib.hid hlen
    have hn2 : m.length ≤ 1000000 := by omega
    obtain ⟨n, hnn⟩ : ∃ n, l.length = n := ⟨_, rfl⟩
    have HN := Lib.hid hnn
    rw [← hlen, hnn] at HU ⊢
    rw [hnn] at HV hn
    clear hlen hnn hn2
    go_enter Tryz.func12, Tryz.ntmps12
    go_wp2_with fail
    go_loopw [5] (fun i w1 => ∃ k : Nat, k ≤ n ∧ i = .int .i64 k ∧ Below w.heap.size w w1 ∧ Hid (l.take k = m.take k)) (fun i _ => n - (intOf i).toNat)
    case atStart => exact ⟨0, Nat.zero_le _, rfl, Below.refl _ _, rfl⟩
    case round =>
      obtain ⟨k, hk, rfl, hb, HK⟩ := hrel
      by_cases hlt : k < n
      · have hll : k < l.length := by rw [HN.out]; exact hlt
        have hlm : k < m.length := by rw [← HL.out]; exact hll
        obtain ⟨b, off, rfl, hcell⟩ := HV.out.at hll
        obtain ⟨b2, off2, rfl, hcell2⟩ := HU.out.at hlm
        obtain ⟨q0, q1, q2, q3, q4⟩ := hcell wr hb
        obtain ⟨p0, p1, p2, p3, p4⟩ := hcell2 wr hb
        clear hcell hcell2
        by_cases hq : l[k] = m[k]
        · have HK2 : Hid (l.take (k + 1) = m.take (k + 1)) := by
            show _ = _
            rw [List.take_succ_eq_append_getElem hll, List.take_succ_eq_append_getElem hlm, HK.out, hq]
          rw [hq] at q0 q1 q2 q3 q4
          clear hq HK
          generalize m[k] = f at q0 q1 q2 q3 q4 p0 p1 p2 p3 p4
          have e0 : (f.name.toList == f.name.toList) = true := beq_self_eq_true _
          have e1 : (f.url.toList == f.url.toList) = true := beq_self_eq_true _
          have e2 : (f.kind.toList == f.kind.toList) = true := beq_self_eq_true _
          have e3 : (f.strip == f.strip) = true := beq_self_eq_true _
          have e4 : (f.sum == f.sum) = true := beq_self_eq_true _
          clear hll hlm
          go_wp2_with fail
          go_quiet (fail)
          go_wp2_with fail
          go_roundw
          case rel => exact ⟨k + 1, by omega, by go_num, hb.trans ((below_drewN _ _ _).mono hb.size), HK2⟩
          case measure => simp [intOf]; omega
        · have HX : Hid (decide (l = m) = false) := decide_eq_false (fun e => hq (by simp [e]))
          generalize l[k] = f at q0 q1 q2 q3 q4 hq
          generalize m[k] = g at p0 p1 p2 p3 p4 hq
          have e0 := str_eqb f.name g.name
          have e1 := str_eqb f.url g.url
          have e2 := str_eqb f.kind g.kind
          have e3 := int_eqb f.strip g.strip
          have e4 := int_eqb f.sum g.sum
          have hf := (not_congr (want_eq f g)).1 hq
          clear hq HK hll hlm
          obtain ⟨b0, hb0⟩ : ∃ b0, decide (f.name = g.name) = b0 := ⟨_, rfl⟩
          obtain ⟨b1, hb1⟩ : ∃ b1, decide (f.url = g.url) = b1 := ⟨_, rfl⟩
          obtain ⟨b2', hb2⟩ : ∃ b1, decide (f.kind = g.kind) = b1 := ⟨_, rfl⟩
          obtain ⟨b3, hb3⟩ : ∃ b1, decide (f.strip = g.strip) = b1 := ⟨_, rfl⟩
          obtain ⟨b4, hb4⟩ : ∃ b1, decide (f.sum = g.sum) = b1 := ⟨_, rfl⟩
          rw [hb0] at e0
          rw [hb1] at e1
          rw [hb2] at e2
          rw [hb3] at e3
          rw [hb4] at e4
          have hnot : ¬ (b0 = true ∧ b1 = true ∧ b2' = true ∧ b3 = true ∧ b4 = true) := fun ⟨h0, h1, h2, h3, h4⟩ => hf ⟨of_decide_eq_true (hb0.trans h0), of_decide_eq_true (hb1.trans h1), of_decide_eq_true (hb2.trans h2), of_decide_eq_true (hb3.trans h3), of_decide_eq_true (hb4.trans h4)⟩
          clear hf hb0 hb1 hb2 hb3 hb4
          cases b0 <;> cases b1 <;> cases b2' <;> cases b3 <;> cases b4 <;> first | (exact absurd ⟨rfl, rfl, rfl, rfl, rfl⟩ hnot) | skip
          all_goals
            clear hnot
            go_wp2_with fail
            go_quiet (fail)
            go_wp2_with fail
            go_ret
            exact ⟨congrArg (fun b => Ending.returned (.bool b)) HX.out.symm, hb.trans ((below_drewN _ _ _).mono hb.size)⟩
      · obtain rfl : k = n := by omega
        have HX : Hid (decide (l = m) = true) := decide_eq_true (by have := HK.out; rwa [List.take_of_length_le (by rw [HN.out]; exact Nat.le_refl _), List.take_of_length_le (by rw [← HL.out, HN.out]; exact Nat.le_refl _)] at this)
        clear HK
        go_wp2_with fail
        go_ret
        exact ⟨congrArg (fun b => Ending.returned (.bool b)) HX.out.symm, hb⟩
  · have HX : Hid (decide (l = m) = false) := decide_eq_false (fun e => hlen (by rw [e]))
    have hne : ((l.length : Int) == (m.length : Int)) = false := by rw [beq_eq_false_iff_ne]; omega
    go_enter Tryz.func12, Tryz.ntmps12
    go_wp2_with fail
    go_ret
    exact ⟨congrArg (fun b => Ending.returned (.bool b)) HX.out.symm, Below.refl _ _⟩
end Go.Proofs.YtgchgdkpipanjaaGreatDoor

namespace Go.Proofs.YtgchgdkpipanjaaGreatDoor
open Go Go.RowKit

/-- What the reference's LockFault hands back. -/
def RLFPost (l : List WantB) (w : World) (e : Ending) (w' : World) : Prop := e = .returned (.agg (erA (lockEr l))) ∧ Below w.heap.size w w'
theorem RLFPost.of {l : List WantB} {w w' : World} {c : Nat} {a : Int} (h : lockEr l = ⟨c, some a⟩) (hb : Below w.heap.size w w') : RLFPost l w (.returned (.agg #[.int .i64 c, .int .i64 a])) w' := ⟨by unfold erA; rw [h]; rfl, hb⟩

set_option maxHeartbeats 4000000 in
set_option maxRecDepth 100000 in
theorem refLockFault_any (v : Value) (l : List WantB) (w : World) (hv : WRow w v l) (hl : l.length ≤ 100000) (hS : ∀ f ∈ l, SmallW f) :
    Calls Tryz.prog 27 #[v] w (RLFPost l w) := by
  have HV := Lib.hid hv
  have HSM := Lib.hid hS
  obtain ⟨ao, cap, rfl⟩ := hv.len
  obtain ⟨g, hg⟩ : ∃ g, w.heap.size = g := ⟨_, rfl⟩
  obtain ⟨wg, hwg⟩ : ∃ wg, w.alloc (.cells #[.int .i64 0, .int .i64 0] 59) = wg := ⟨_, rfl⟩
  have hal : Below w.heap.size w wg := by rw [← hwg]; exact (Below.refl _ _).alloc (Nat.le_refl _) _
  have FG := Lib.hid (show FaultAt wg g 0 0 by rw [← hwg, ← hg]; exact FaultAt.new w 0 0)
  have hgw : w.heap.size ≤ g := Nat.le_of_eq hg
  have BG := Lib.hid hal
  have HWG := Lib.hid hwg
  have HG := Lib.hid hg
  clear hal hwg hg hv hS
  go_enter Tryz.func27, Tryz.ntmps27
  by_cases h20 : l.length ≤ 20
  rotate_left
  · have hd : decide ((l.length : Int) > 20) = true := decide_eq_true (by omega)
    have HY := Lib.hid (lockEr_many (l := l) (by omega))
    have C := Lib.hid (refBare_any 8 wg)
    go_wp2_with fail
    rw [HWG.out, HG.out]
    refine C.out.mono ?_
    clear C
    rintro e w1 ⟨rfl, hb1⟩
    have F1 := FG.out.ext hb1
    obtain ⟨y0, y1, y2, y3⟩ := F1.cells
    obtain ⟨s0, s1, s2⟩ := fault_end F1 8 (-1) w.heap.size hgw
    have B1 := Lib.hid ((BG.out.trans (hb1.mono BG.out.size)).trans s2)
    clear F1 hb1 s2
    go_wp2_with fail
    refine bodyPost_ret (v := .agg #[.int .i64 8, .int .i64 (-1)]) ?_ rfl ⟨by rw [HY.out]; rfl, B1.out⟩
    simp [results, Tryz.results27, go_sem, s0, s1]
  have hd : decide ((l.length : Int) > 20) = false := decide_eq_false (by omega)
  go_wp2_with fail
  rw [HWG.out, HG.out]
  go_loopw [3] (fun i wr => ∃ k : Nat, k ≤ l.length ∧ i = .int .i64 k ∧ Hid (lockGo none 0 l = lockGo (prevW l k) k (l.drop k)) ∧ Hid (Below wg.heap.size wg wr)) (fun i _ => l.length - (intOf i).toNat)
  case atStart => exact ⟨0, Nat.zero_le _, rfl, rfl, Below.refl _ _⟩
  case round =>
    obtain ⟨k, hk, rfl, HF, Bq⟩ := hrel
    have Bw := Lib.hid (BG.out.trans (Bq.out.mono BG.out.size))
    by_cases hlt : k < l.length
    · obtain ⟨b, off, rfl, hcell⟩ := HV.out.at hlt
      obtain ⟨q0, q1, q2, q3, q4⟩ := hcell wr Bw.out
      have HAT := Lib.hid (fun c => lockEr_at (c := c) h20 hlt HF.out)
      have HNX := Lib.hid (lockGo_next hlt HF.out)
      have HW := Lib.hid (fun c => lockE_want (c := c) hlt)
      have HFR := Lib.hid (fun h0 => lockE_from hlt h0)
      have HFI : Hid (k = 0 → wantE l[k] = 0 → lockE (prevW l k) l[k] = 0) := fun e h => by subst e; exact lockE_first hlt h
      have HPV : Hid (∀ h0 : 0 < k, ∀ W, Below w.heap.size w W → W.cell? ⟨b, off + (k - 1) * 5, none⟩ = some (.string (l[k - 1]'(by omega)).name)) := fun h0 W hW => by
        obtain ⟨b', off', e, h⟩ := HV.out.at (show k - 1 < l.length by omega)
        injection e with e
        injection e with e1 e2
        subst e1 e2
        exact (h W hW).1
      have HNM : Hid (∀ W, Below w.heap.size w W → W.cell? ⟨b, off + k * 5, none⟩ = some (.string l[k].name)) := fun W hW => (hcell W hW).1
      have sz := HSM.out l[k] (List.getElem_mem hlt)
      clear hcell
      obtain ⟨f, hf⟩ : ∃ f, l[k] = f := ⟨_, rfl⟩
      rw [hf] at q0 q1 q2 q3 q4 sz HAT HNX HW HFR HFI HNM
      clear hf
      have C := Lib.hid (refWantError_any f wr (by have := sz.1; omega) (by have := sz.2.1; omega))
      go_wp2_with fail
      refine C.out.mono ?_
      clear C q0 q1 q2 q3 q4
      rintro e w1 ⟨rfl, hb1⟩
      have B1 := Lib.hid (Bw.out.trans (hb1.mono Bw.out.size))
      have Bq1 := Lib.hid (Bq.out.trans (hb1.mono Bq.out.size))
      have F1 := Lib.hid (FG.out.ext Bq1.out)
      obtain ⟨y0, y1, y2, y3⟩ := F1.out.cells
      clear hb1 Bq
      cases hw : wantE f with
      | succ c =>
        have HY := Lib.hid (HAT.out c (HW.out c hw))
        obtain ⟨s0, s1, s2⟩ := fault_end F1.out ((c : Int) + 1) (k : Int) w.heap.size hgw
        have BZ := Lib.hid (B1.out.trans s2)
        have e0 : (((c + 1 : Nat) : Int) == 0) = false := by rw [beq_eq_false_iff_ne]; omega
        rw [show ((c + 1 : Nat) : Int) = (c : Int) + 1 from rfl] at e0 ⊢
        have hpos : (0 : Int) < (c : Int) + 1 := by omega
        clear HAT HNX HW HFR HFI HPV HNM hw HF s2
        go_wp2_with fail
        refine bodyPost_ret (v := .agg #[.int .i64 ((c : Int) + 1), .int .i64 k]) ?_ rfl (RLFPost.of (c := c + 1) HY.out BZ.out)
        simp [results, Tryz.results27, go_sem, s0, s1]
      | zero =>
        rw [show ((0 : Nat) : Int) = 0 from rfl]
        by_cases hk0 : k = 0
        · have HF2 : Hid (lockGo none 0 l = lockGo (prevW l (k + 1)) (k + 1) (l.drop (k + 1))) := HNX.out (HFI.out hk0 hw)
          have hd0 : decide ((k : Int) > 0) = false := decide_eq_false (by omega)
          have hkz : k ≤ 0 := by omega
          clear HAT HNX HW HFR HFI hw HF hk0 HPV HNM
          go_wp2_with fail
          go_roundw
          case rel => exact ⟨k + 1, by omega, by go_num, HF2, Bq1⟩
          case measure => simp [intOf]; omega
        · have h0 : 0 < k := by omega
          have hE := HFR.out h0 hw
          have p0 := HPV.out h0 w1 B1.out
          have p1 := HNM.out w1 B1.out
          obtain ⟨g2, hg2⟩ : ∃ x, l[k - 1]'(by omega) = x := ⟨_, rfl⟩
          rw [hg2] at hE p0
          have hwr : IntKind.i64.wrap ((k : Int) - 1) = ((k - 1 : Nat) : Int) := by rw [IntWalk.i64_in _ (by omega)]; omega
          have hd0 : decide ((k : Int) > 0) = true := decide_eq_true (by omega)
          have hkl : ((k - 1 : Nat) : Int) < (l.length : Int) := by omega
          obtain ⟨lq, hlq⟩ : ∃ lq, (Op.bytesLess f.name.toList g2.name.toList || f.name.toList == g2.name.toList) = lq := ⟨_, rfl⟩
          have HEQ : Hid (lockE (prevW l k) f = if lq = true then 9 else 0) := by show _ = _; rw [hE, leq_names, hlq]
          have HLQ := Lib.hid hlq
          clear hE hg2 hlq hw HW HFR HFI HPV HNM
          go_wp2_with fail
          go_quiet (fail)
          clear hwr hkl hd0 p0 p1
          rw [HLQ.out]
          obtain ⟨wq, hwq⟩ : ∃ wq, w1.drewN nq = wq := ⟨_, rfl⟩
          have hd : Below w1.heap.size w1 wq := by rw [← hwq]; exact below_drewN _ w1 nq
          have Bq2 := Lib.hid (Bq1.out.trans (hd.mono Bq1.out.size))
          have B2 := Lib.hid (B1.out.trans (hd.mono B1.out.size))
          have F2 := Lib.hid (F1.out.ext hd)
          rw [hwq]
          clear hwq y0 y1 y2 y3 F1 B1 Bq1 hd
          obtain ⟨y0, y1, y2, y3⟩ := F2.out.cells
          cases lq with
          | true =>
            have HY := Lib.hid (HAT.out 8 (by rw [HEQ.out]; rfl))
            obtain ⟨s0, s1, s2⟩ := fault_end F2.out 9 (k : Int) w.heap.size hgw
            have BZ := Lib.hid (B2.out.trans s2)
            clear HAT HNX HEQ HF s2
            go_wp2_with fail
            refine bodyPost_ret (v := .agg #[.int .i64 9, .int .i64 k]) ?_ rfl (RLFPost.of (c := 9) HY.out BZ.out)
            simp [results, Tryz.results27, go_sem, s0, s1]
          | false =>
            have HF2 : Hid (lockGo none 0 l = lockGo (prevW l (k + 1)) (k + 1) (l.drop (k + 1))) := HNX.out (by rw [HEQ.out]; rfl)
            clear HAT HNX HEQ HF
            go_wp2_with fail
            go_roundw
            case rel => exact ⟨k + 1, by omega, by go_num, HF2, Bq2⟩
            case measure => simp [intOf]; omega
    · obtain rfl : k = l.length := by omega
      have HY := Lib.hid (lockEr_end h20 HF.out)
      have C := Lib.hid (refFine_any wr)
      clear HF
      go_wp2_with fail
      refine C.out.mono ?_
      clear C
      rintro e w1 ⟨rfl, hb1⟩
      have F1 := FG.out.ext (Bq.out.trans (hb1.mono Bq.out.size))
      obtain ⟨y0, y1, y2, y3⟩ := F1.cells
      obtain ⟨s0, s1, s2⟩ := fault_end F1 0 (-1) w.heap.size hgw
      have B1 := Lib.hid ((Bw.out.trans (hb1.mono Bw.out.size)).trans s2)
      clear F1 hb1 s2
      go_wp2_with fail
      refine bodyPost_ret (v := .agg #[.int .i64 0, .int .i64 (-1)]) ?_ rfl ⟨by rw [HY.out]; rfl, B1.out⟩
      simp [results, Tryz.results27, go_sem, s0, s1]

set_option maxHeartbeats 4000000 in
set_option maxRecDepth 100000 in
theorem refLockText_any (v : Value) (l : List WantB) (w : World) (hv : WRow w v l) (hl : l.length ≤ 20) (hS : ∀ f ∈ l, SmallW f) :
    Calls Tryz.prog 29 #[v] w fun e w' => (∃ t : ByteArray, e = .returned (.string t) ∧ Hid (bl t = lockTx l)) ∧ Below w.heap.size w w' := by
  have HV := Lib.hid hv
  have HSM := Lib.hid hS
  obtain ⟨ao, cap, rfl⟩ := hv.len
  clear hv hS
  go_enter Tryz.func29, Tryz.ntmps29
  go_wp2_with fail
  go_loopw [3, 4] (fun sv i wr => ∃ (k : Nat) (s : ByteArray), k ≤ l.length ∧ i = .int .i64 k ∧ sv = .string s ∧ Hid (bl s = lockTx (l.take k)) ∧ s.size ≤ 170000 * k ∧ Hid (Below w.heap.size w wr)) (fun _ i _ => l.length - (intOf i).toNat)
  case atStart => exact ⟨0, ⟨#[]⟩, Nat.zero_le _, rfl, rfl, rfl, Nat.zero_le _, Below.refl _ _⟩
  case round =>
    obtain ⟨k, s, hk, rfl, rfl, HAC, hlen, Bw⟩ := hrel
    by_cases hlt : k < l.length
    · obtain ⟨b, off, rfl, hcell⟩ := HV.out.at hlt
      obtain ⟨q0, q1, q2, q3, q4⟩ := hcell wr Bw.out
      have sz := HSM.out l[k] (List.getElem_mem hlt)
      have HTK : Hid (bl s ++ (wantTx l[k] ++ [10]) = lockTx (l.take (k + 1))) := by show _ = _; rw [lockTx_take hlt, HAC.out]
      have htl := wantTx_len l[k]
      clear hcell HAC
      obtain ⟨f, hf⟩ : ∃ f, l[k] = f := ⟨_, rfl⟩
      rw [hf] at q0 q1 q2 q3 q4 sz HTK htl
      clear hf
      have sz0 := sz.1
      have sz1 := sz.2.1
      have sz2 := sz.2.2
      have C := Lib.hid (refWantText_any f wr (by omega) (by omega) (by omega))
      have hss : s.size ≤ 3400000 := by omega
      clear sz
      go_wp2_with fail
      refine C.out.mono ?_
      clear C q0 q1 q2 q3 q4
      rintro e w2 ⟨⟨t, rfl, HT⟩, hb2⟩
      have B2 := Lib.hid (Bw.out.trans (hb2.mono Bw.out.size))
      have ht : t.size ≤ 160030 := by rw [← bl_length, HT.out]; omega
      have n1 : ¬ 9223372036854775807 < s.size + t.size := by omega
      have n2 : ¬ 9223372036854775807 < s.size + t.size + 1 := by omega
      have HX : Hid (bl ((s ++ t) ++ ⟨#[10]⟩) = lockTx (l.take (k + 1))) := by
        show _ = _
        rw [← HTK.out, bl_append, bl_append, HT.out, List.append_assoc]; rfl
      have HLN : Hid (((s ++ t) ++ ⟨#[10]⟩).size ≤ 170000 * (k + 1)) := by
        show _ ≤ _
        have h1 : (bl ((s ++ t) ++ ⟨#[10]⟩)).length = s.size + t.size + 1 := by
          rw [bl_append, bl_append, List.length_append, List.length_append, bl_length, bl_length]; rfl
        rw [bl_length] at h1; omega
      clear hb2 HTK HT htl
      go_wp2_with fail
      go_roundw
      case rel => exact ⟨k + 1, _, by omega, by go_num, rfl, HX, HLN.out, B2⟩
      case measure => simp [intOf]; omega
    · obtain rfl : k = l.length := by omega
      have HT : Hid (bl s = lockTx l) := by show _ = _; rw [HAC.out, List.take_length]
      clear HAC
      go_wp2_with fail
      go_ret
      exact ⟨⟨s, rfl, HT⟩, Bw.out⟩
end Go.Proofs.YtgchgdkpipanjaaGreatDoor

namespace Go.Proofs.YtgchgdkpipanjaaGreatDoor
open Go Go.RowKit

/- append(s, x...) of wants within a region that draws its order, s the call's own. -/
set_option maxRecDepth 100000 in
theorem step_append_wants {w : World} {ops : Array Oper} {o : Oper} {a : Act} {K : Act → World → Prop} {Q : Exit → Act → World → Prop} {E : Prop} (hgd : o.guard = none) (s x : Operand)
    (ho : o.op = .call { callee := .builtin .append, args := #[s, x], argTypes := #[22, 22] })
    (base : Nat) (v : Value) (l : List WantB) (hs : a.eval s = v) (hown : WOwn w base v l) (u : Value) (m : List WantB) (hx : a.eval x = u) (hsrc : WSrc w u m) (hlen : l.length + m.length ≤ 1000000) (hbase : base ≤ w.heap.size)
    (h : ∀ v' w', Hid (WOwn w' base v' (l ++ m)) → Hid (∀ w0, Below base w0 w → Below base w0 w') → K (a.put o.dst v') w') :
    if Region.wanted o (yielded ops a.tmps) = true then Oper.wp Tryz.prog o a w K Q else E := by
  have hw : Region.wanted o (yielded ops a.tmps) = true := by simp [Region.wanted, hgd]
  rw [if_pos hw]
  obtain ⟨i0, hi0, hz0, hz1, hz2⟩ := info_parts Tryz.infoWant
  rcases hsrc with ⟨rfl, rfl⟩ | ⟨ad, c, rfl, hcell⟩
  · have hrun := run_append_owned_none (P := Tryz.prog) (w := w) base 22 o.type 41 i0 5 Tryz.underlying22 hi0 v l.length _ hown
    unfold Oper.wp
    simp [execOp, ho, resolve, invoke, builtin, hs, hx, hrun, Result.andThen]
    refine h _ _ ?_ (fun _ hb => hb)
    show WOwn _ _ _ _
    rw [List.append_nil]; exact hown
  · refine wp_append_own w s x 22 ho base 41 i0 (.agg #[.string ⟨#[]⟩, .string ⟨#[]⟩, .string ⟨#[]⟩, .int .i64 0, .int .i64 0]) 5 64 Tryz.underlying22 hi0 hz0 hz1 hz2 rfl (by decide) v l.length _ hs hown ad m.length c (m.flatMap encW) hx (flatMap_len _ 5 (fun _ => rfl) m) ?c1 ?c2 ?c3 ?c4 hbase ?_
    case c1 =>
      intro j u hj
      have hjl : j < (m.flatMap encW).length := (List.getElem?_eq_some_iff.1 hj).1
      rw [flatMap_len encW 5 (fun _ => rfl)] at hjl
      have hi : j / 5 < m.length := by omega
      obtain ⟨b, off, rfl, q0, q1, q2, q3, q4⟩ := hcell (j / 5) hi
      rw [show j = j / 5 * 5 + j % 5 by omega, flatMap_at encW 5 (fun _ => rfl) m (j / 5) (j % 5) hi (by omega)] at hj
      have hm : j % 5 = 0 ∨ j % 5 = 1 ∨ j % 5 = 2 ∨ j % 5 = 3 ∨ j % 5 = 4 := by omega
      show w.cell? (Addr.add ⟨b, off, none⟩ j) = some u
      rw [Addr.add_lit]
      rcases hm with hm | hm | hm | hm | hm
      · rw [hm] at hj
        have : u = .string m[j / 5].name := by simpa using hj.symm
        rw [this, ← q0]; congr 2; omega
      · rw [hm] at hj
        have : u = .string m[j / 5].url := by simpa using hj.symm
        rw [this, ← q1]; congr 2; omega
      · rw [hm] at hj
        have : u = .string m[j / 5].kind := by simpa using hj.symm
        rw [this, ← q2]; congr 2; omega
      · rw [hm] at hj
        have : u = .int .i64 m[j / 5].strip := by simpa using hj.symm
        rw [this, ← q3]; congr 2; omega
      · rw [hm] at hj
        have : u = .int .i64 m[j / 5].sum := by simpa using hj.symm
        rw [this, ← q4]; congr 2; omega
    case c2 =>
      intro u hu
      obtain ⟨f, _, hf⟩ := List.mem_flatMap.1 hu
      simp at hf
      rcases hf with rfl | rfl | rfl | rfl | rfl <;> rfl
    case c3 => rw [maxLen_eq]; omega
    case c4 => omega
    intro v' w' hown' hgrow _
    refine h v' w' ?_ (fun w0 hb => hb.grown hgrow hbase (fun q hq => (World.ownsRow.lt hown q hq).1))
    show World.ownsRow _ _ _ _ _ _ _
    rw [List.length_append, List.flatMap_append]; exact hown'


/-- What the reference's SetWant and DropWant hand back. -/
def RSetPost (r : Er × List WantB) (w : World) (e : Ending) (w' : World) : Prop := (∃ v, e = .returned (.tuple #[v, .agg (erA r.1)]) ∧ Hid (WOwn w' w.heap.size v r.2)) ∧ Below w.heap.size w w'
theorem RSetPost.fault {r : Er × List WantB} {w w' : World} {v : Value} {c : Nat} {a : Int} (hc : r.1.code = c) (ha : r.1.at?.getD (-1) = a) (h : WOwn w' w.heap.size v r.2) (hb : Below w.heap.size w w') : RSetPost r w (.returned (.tuple #[v, .agg #[.int .i64 c, .int .i64 a]])) w' :=
  ⟨⟨v, by unfold erA; rw [hc, ha], h⟩, hb⟩
theorem wown_fault {w : World} {B g : Nat} {v : Value} {l : List WantB} (h : WOwn w B v l) (hg : g < B) (x y : Value) : WOwn ((w.setCell ⟨g, 0, none⟩ x).setCell ⟨g, 1, none⟩ y) B v l :=
  WOwn.store (WOwn.store h (fun q hq e => by have := (World.ownsRow.lt h q hq).1; omega) _) (fun q hq e => by have := (World.ownsRow.lt h q hq).1; omega) _
/-- The wants from a place on: as an operation gives them. -/
theorem wants_behind (b off n cap k : Nat) (hk : k ≤ n) (hs : n ≤ cap) : ∃ rv, (∀ W : World, (Instr.slice 22 (.slice (some ⟨b, off, none⟩) n cap) (some (.int .i64 (k : Int))) none none).run Tryz.prog W = .ok rv W) ∧ ∀ (W : World) (l : List WantB), WSrc W (.slice (some ⟨b, off, none⟩) n cap) l → l.length = n → WSrc W rv (l.drop k) := by
  refine ⟨.slice (if cap = k then some ⟨b, off, none⟩ else some ⟨b, off + k * 5, none⟩) (n - k) (cap - k), fun W => ?_, fun W l h hl => h.dropS hl hs hk⟩
  rw [run_slice_l W 22 (some ⟨b, off, none⟩) n cap (by kernel_rfl) .i64 (k : Int) (by omega) (by omega)]
  by_cases h : cap = k <;> simp [sliced, go_sem, h]

set_option maxHeartbeats 4000000 in
set_option maxRecDepth 100000 in
theorem refDropWant_any (v : Value) (l : List WantB) (p : ByteArray) (w : World) (hv : WArg w v l) (hl : l.length ≤ 10000) (hS : ∀ f ∈ l, SmallW f) :
    Calls Tryz.prog 32 #[v, .string p] w (RSetPost (dropLk l p) w) := by
  have HS := Lib.hid hS
  have HV := Lib.hid hv
  obtain ⟨⟨ao, cap, rfl, h1, h2, _⟩, _⟩ := hv
  clear hS
  obtain ⟨g, hg⟩ : ∃ g, w.heap.size = g := ⟨_, rfl⟩
  obtain ⟨wg, hwg⟩ : ∃ wg, w.alloc (.cells #[.int .i64 0, .int .i64 0] 59) = wg := ⟨_, rfl⟩
  have hal : Below w.heap.size w wg := by rw [← hwg]; exact (Below.refl _ _).alloc (Nat.le_refl _) _
  have FG := Lib.hid (show FaultAt wg g 0 0 by rw [← hwg, ← hg]; exact FaultAt.new w 0 0)
  have hgw : w.heap.size ≤ g := Nat.le_of_eq hg
  have BG := Lib.hid hal
  have HWG := Lib.hid hwg
  have HG := Lib.hid hg
  have C := Lib.hid (refLockFault_any _ l wg (HV.out.1.ext hal) (by omega) HS.out)
  clear hal hwg hg
  go_enter Tryz.func32, Tryz.ntmps32
  go_wp2_with fail
  rw [HWG.out, HG.out]
  refine C.out.mono ?_
  clear C
  rintro e w1 ⟨rfl, hb1⟩
  have F1 := Lib.hid (FG.out.ext hb1)
  have B1 := Lib.hid (BG.out.trans (hb1.mono BG.out.size))
  obtain ⟨c, hc⟩ : ∃ c, (lockEr l).code = c := ⟨_, rfl⟩
  obtain ⟨a, ha⟩ : ∃ a : Int, (lockEr l).at?.getD (-1) = a := ⟨_, rfl⟩
  have HC := Lib.hid hc
  have HA := Lib.hid ha
  rw [show erA (lockEr l) = #[.int .i64 c, .int .i64 a] by unfold erA; rw [hc, ha]]
  obtain ⟨q, hq⟩ : ∃ q, w1.heap.size = q := ⟨_, rfl⟩
  obtain ⟨w2, hw2⟩ : ∃ w2, w1.alloc (.cells #[.int .i64 c, .int .i64 a] 59) = w2 := ⟨_, rfl⟩
  have hal2 : Below w1.heap.size w1 w2 := by rw [← hw2]; exact (Below.refl _ _).alloc (Nat.le_refl _) _
  have FQ := Lib.hid (show FaultAt w2 q c a by rw [← hw2, ← hq]; exact FaultAt.new w1 _ _)
  have F2 := Lib.hid (F1.out.ext hal2)
  have B2 := Lib.hid (B1.out.trans (hal2.mono B1.out.size))
  have HW2 := Lib.hid hw2
  have HQ := Lib.hid hq
  have hqw : w.heap.size ≤ q := by rw [← HQ.out]; exact Nat.le_trans hgw (Nat.le_of_lt F1.out.lt)
  have hgq : g ≠ q := by have := F1.out.lt; omega
  have hgw2 : g < w2.heap.size := F2.out.lt
  have hqw2 : q < w2.heap.size := FQ.out.lt
  clear hb1 hc ha hal2 hw2 hq FG BG F1 B1
  obtain ⟨x0, x1, _, _⟩ := FQ.out.cells
  obtain ⟨y0, y1, y2, y3⟩ := F2.out.cells
  go_upto_region 2 with fail
  rw [HW2.out, HQ.out]
  by_cases hz : c = 0
  rotate_left
  · have hpos : (0 : Int) < (c : Int) := by omega
    have HY : Hid (dropLk l p = (lockEr l, [])) := by show _ = _; unfold dropLk; rw [if_pos (by rw [HC.out]; exact hz)]
    clear hz
    go_wp2_with fail
    go_region
    all_goals go_wp2_with fail
    obtain ⟨s0, s1, s2⟩ := fault_end F2.out c a w.heap.size hgw
    rw [HY.out]
    refine bodyPost_ret (v := .tuple #[.slice none 0 0, .agg #[.int .i64 c, .int .i64 a]]) ?_ rfl (RSetPost.fault HC.out HA.out (WOwn.nil _ _) ((B2.out.trans s2).drew))
    have s0' := s0; have s1' := s1
    simp [results, Tryz.results32, go_sem, s0', s1']
  subst hz
  have HD := Lib.hid (dropLk_from p (HC.out))
  have HAN : Hid (a = -1) := by show _ = _; rw [← HA.out, (lockOk_iff l).1 HC.out |>.er]; rfl
  have C := Lib.hid (refFindWant_any _ l p w2 (HV.out.ext B2.out).1 (by omega))
  go_wp2_with fail
  refine C.out.mono ?_
  clear C x0 x1 y0 y1 y2 y3
  rintro e w3 ⟨rfl, hb3⟩
  have F3 := Lib.hid (F2.out.ext hb3)
  have FQ3 := Lib.hid (FQ.out.ext hb3)
  have B3 := Lib.hid (B2.out.trans (hb3.mono B2.out.size))
  have hg3 : g < w3.heap.size := F3.out.lt
  have hq3 : q < w3.heap.size := FQ3.out.lt
  clear F2 FQ B2 hb3
  cases hf : findW p l with
  | none =>
    have HY : Hid (dropLk l p = (⟨6, none⟩, [])) := by show _ = _; rw [HD.out, hf]
    rw [show findI none = -1 from rfl]
    have C := Lib.hid (refBare_any 6 w3)
    clear hf HD
    go_wp2_with fail
    refine C.out.mono ?_
    clear C
    rintro e w4 ⟨rfl, hb4⟩
    have F4 := Lib.hid (F3.out.ext hb4)
    have B4 := Lib.hid (B3.out.trans (hb4.mono B3.out.size))
    obtain ⟨y0, y1, y2, y3⟩ := F4.out.cells
    go_wp2_with fail
    obtain ⟨s0, s1, s2⟩ := fault_end F4.out 6 (-1) w.heap.size hgw
    rw [HY.out]
    refine bodyPost_ret (v := .tuple #[.slice none 0 0, .agg #[.int .i64 6, .int .i64 (-1)]]) ?_ rfl (RSetPost.fault (c := 6) rfl rfl (WOwn.nil _ _) (B4.out.trans s2))
    simp [results, Tryz.results32, go_sem, s0, s1]
  | some k =>
    have hk := (findW_some hf).1
    have HY : Hid (dropLk l p = (⟨0, none⟩, l.take k ++ l.drop (k + 1))) := by show _ = _; rw [HD.out, hf]; simp only; rw [List.eraseIdx_eq_take_drop_succ]
    rw [show findI (some k) = (k : Int) from rfl]
    have hk0 : ¬ (k : Int) < 0 := by omega
    obtain ⟨b, off, rfl, _⟩ := HV.out.1.at hk
    have HSRC := Lib.hid (HV.out.ext B3.out).src
    have SRCt := Lib.hid (HSRC.out.take0 rfl (Nat.le_of_lt hk))
    obtain ⟨rv, hrv, hrs⟩ := wants_behind b off l.length cap (k + 1) (by omega) h1
    have hrv2 : ∀ W : World, (Instr.slice 22 (.slice (some ⟨b, off, none⟩) l.length cap) (some (.int .i64 ((k : Int) + 1))) none none).run Tryz.prog W = .ok rv W := hrv
    have HRS := Lib.hid (fun W hW => hrs W l hW rfl)
    clear hf HD hrv hrs
    obtain ⟨tk, htk⟩ : ∃ tk, l.take k = tk := ⟨_, rfl⟩
    obtain ⟨rs, hrs⟩ : ∃ rs, l.drop (k + 1) = rs := ⟨_, rfl⟩
    have htl : tk.length ≤ 10000 := by rw [← htk, List.length_take]; omega
    have hrl : rs.length ≤ 10000 := by rw [← hrs, List.length_drop]; omega
    rw [htk] at SRCt
    rw [htk, hrs] at HY
    rw [hrs] at HRS
    clear htk hrs
    go_wp2_with (at_builtin; refine wpList_append_wants rfl _ _ rfl w3.heap.size (.slice none 0 0) [] rfl (WOwn.nil _ _) _ tk rfl SRCt.out (by simp; omega) (Nat.le_refl _) ?_)
    intro ov6 w6 HO6' HB6'
    have HO6 : Hid (WOwn w6 w3.heap.size ov6 tk) := HO6'.out
    have HB6 := Lib.hid (HB6'.out w3 (Below.refl _ _))
    clear HO6' HB6' SRCt HSRC
    have B6 := Lib.hid (B3.out.trans (HB6.out.mono B3.out.size))
    have F6 := Lib.hid (F3.out.ext HB6.out)
    have FQ6 := Lib.hid (FQ3.out.ext HB6.out)
    obtain ⟨o6, c6, rfl⟩ := HO6.out.shape
    obtain ⟨x0, x1, _, _⟩ := FQ6.out.cells
    obtain ⟨y0, y1, y2, y3⟩ := F6.out.cells
    have hd6 : Below w6.heap.size w6 w6.drew := below_drewN _ w6 1
    have HS6 := Lib.hid (HRS.out w6.drew ((HV.out.ext (B6.out.trans (hd6.mono B6.out.size))).src))
    have HOd := Lib.hid (HO6.out.ext hd6)
    have HBd := Lib.hid (HB6.out.trans (hd6.mono HB6.out.size))
    have hbd : w3.heap.size ≤ w6.drew.heap.size := HB6.out.size
    have hwr : IntKind.i64.wrap ((k : Int) + 1) = (k : Int) + 1 := IntWalk.i64_in _ (by omega)
    clear HRS hd6 F6 FQ6 B6
    go_wp2_with fail
    go_region_law ((refine step_append_wants rfl _ _ rfl w3.heap.size (.slice o6 tk.length c6) tk rfl HOd.out rv rs rfl HS6.out (by omega) hbd ?_); (intro v7 w7 HO7' HB7'); (have HO7 : Hid (WOwn w7 w3.heap.size v7 (tk ++ rs)) := HO7'.out); (have HB7 := Lib.hid (HB7'.out w3 HBd.out)); clear HO7' HB7'; (obtain ⟨p0, p1, _, _⟩ := (FQ3.out.ext HB7.out).cells); (obtain ⟨r0, r1, r2, r3⟩ := (F3.out.ext HB7.out).cells))
    all_goals
      obtain ⟨s0, s1, s2⟩ := fault_end (F3.out.ext HB7.out) 0 a w.heap.size hgw
      have BZ := Lib.hid ((B3.out.trans (HB7.out.mono B3.out.size)).trans s2)
      have HOZ := Lib.hid (WOwn.low (wown_fault HO7.out hg3 (.int .i64 0) (.int .i64 a)) B3.out.size)
      clear p0 p1 r0 r1 r2 r3 s2 hrv2 hwr
      go_wp2_with fail
      rw [HY.out]
      refine bodyPost_ret (v := .tuple #[v7, .agg #[.int .i64 0, .int .i64 a]]) ?_ rfl (RSetPost.fault (c := 0) rfl (by show (-1 : Int) = a; exact HAN.out.symm) HOZ.out BZ.out)
      simp [results, Tryz.results32, go_sem, s0, s1]
end Go.Proofs.YtgchgdkpipanjaaGreatDoor

namespace Go.Proofs.YtgchgdkpipanjaaGreatDoor
open Go Go.RowKit

/-- What was read, and what is to come, by the lines. -/
def CStep (cs : List (List UInt8)) (acc : List WantB) (k : Nat) : Prop :=
  (linesW 0 cs).1 = (linesW k (cs.drop k)).1 ∧ (linesW 0 cs).2 = acc ++ (linesW k (cs.drop k)).2
theorem linesW_cons (i : Nat) (x : List UInt8) {r : List (List UInt8)} (h : r ≠ []) : linesW i (x :: r) = if (readW x).1 ≠ 0 then (⟨(readW x).1, some (i : Int)⟩, []) else ((linesW (i + 1) r).1, (readW x).2 :: (linesW (i + 1) r).2) := by
  cases r with
  | nil => exact absurd rfl h
  | cons y r => rw [linesW]; intro h; cases h
theorem linesW_one (i : Nat) (x : List UInt8) : linesW i [x] = if x = [] then (⟨0, none⟩, []) else (⟨1, some (i : Int)⟩, []) := by rw [linesW]
theorem CStep.zero (cs : List (List UInt8)) : CStep cs [] 0 := ⟨rfl, rfl⟩
theorem CStep.last {s : List UInt8} {acc : List WantB} {k : Nat} (h : CStep (cutL 10 s) acc k) (hk : k + 1 = (cutL 10 s).length) (h0 : (cutL 10 s)[k]'(by omega) = []) : readLk s = if (lockEr acc).code ≠ 0 then (lockEr acc, []) else (⟨0, none⟩, acc) := by
  unfold CStep at h
  rw [List.drop_eq_getElem_cons (by omega), List.drop_eq_nil_of_le (by omega), linesW_one, if_pos h0, List.append_nil] at h
  unfold readLk
  rw [h.1, h.2, if_neg (by simp)]
theorem CStep.tail {s : List UInt8} {acc : List WantB} {k : Nat} (h : CStep (cutL 10 s) acc k) (hk : k + 1 = (cutL 10 s).length) (h0 : (cutL 10 s)[k]'(by omega) ≠ []) : readLk s = (⟨1, some (k : Int)⟩, []) := by
  unfold CStep at h
  rw [List.drop_eq_getElem_cons (by omega), List.drop_eq_nil_of_le (by omega), linesW_one, if_neg h0, List.append_nil] at h
  unfold readLk
  rw [h.1, if_pos (by simp)]
theorem CStep.bad {s : List UInt8} {acc : List WantB} {k c : Nat} (h : CStep (cutL 10 s) acc k) (hk : k + 1 < (cutL 10 s).length) (h0 : (readW ((cutL 10 s)[k]'(by omega))).1 = c + 1) : readLk s = (⟨c + 1, some (k : Int)⟩, []) := by
  unfold CStep at h
  rw [List.drop_eq_getElem_cons (by omega), linesW_cons _ _ (by intro e; have := congrArg List.length e; rw [List.length_drop, List.length_nil] at this; omega), if_pos (by rw [h0]; simp), h0] at h
  unfold readLk
  rw [h.1, if_pos (by simp)]
theorem CStep.next {cs : List (List UInt8)} {acc : List WantB} {k : Nat} (h : CStep cs acc k) (hk : k + 1 < cs.length) (h0 : (readW (cs[k]'(by omega))).1 = 0) : CStep cs (acc ++ [(readW (cs[k]'(by omega))).2]) (k + 1) := by
  unfold CStep at h ⊢
  rw [List.drop_eq_getElem_cons (by omega), linesW_cons _ _ (by intro e; have := congrArg List.length e; rw [List.length_drop, List.length_nil] at this; omega), if_neg (by rw [h0]; simp)] at h
  rw [List.append_assoc]
  exact h

set_option maxHeartbeats 4000000 in
set_option maxRecDepth 100000 in
theorem refReadLock_any (s : ByteArray) (w : World) (hs : s.size ≤ 30000) :
    Calls Tryz.prog 30 #[.string s] w (RSetPost (readLk (bl s)) w) := by
  obtain ⟨g, hg⟩ : ∃ g, w.heap.size = g := ⟨_, rfl⟩
  obtain ⟨wg, hwg⟩ : ∃ wg, w.alloc (.cells #[.int .i64 0, .int .i64 0] 59) = wg := ⟨_, rfl⟩
  have hal : Below w.heap.size w wg := by rw [← hwg]; exact (Below.refl _ _).alloc (Nat.le_refl _) _
  have FG := Lib.hid (show FaultAt wg g 0 0 by rw [← hwg, ← hg]; exact FaultAt.new w 0 0)
  have hgw : w.heap.size ≤ g := Nat.le_of_eq hg
  have BG := Lib.hid hal
  have HWG := Lib.hid hwg
  have HG := Lib.hid hg
  have C := Lib.hid (refCut_any s 10 wg (by omega))
  clear hal hwg hg
  go_enter Tryz.func30, Tryz.ntmps30
  go_wp2_with fail
  rw [HWG.out, HG.out]
  refine C.out.mono ?_
  clear C
  rintro e w1 ⟨cv, zs, rfl, HZ, HZC, hzl, hb1⟩
  have F1 := Lib.hid (FG.out.ext hb1)
  have B1 := Lib.hid (BG.out.trans (hb1.mono BG.out.size))
  have hz0 : 0 < zs.length := by
    have := congrArg List.length HZC.out
    rw [List.length_map] at this
    have h2 := cutL_len 10 (bl s)
    omega
  obtain ⟨zo, zc, rfl, _, _, H3⟩ := HZ.out.parts
  have HM := Lib.hid H3
  have hgw1 : g < w1.heap.size := F1.out.lt
  clear hb1 FG BG H3
  go_wp2_with fail
  obtain ⟨we, rfl⟩ : ∃ we, we = w1 := ⟨_, rfl⟩
  go_loopw [5, 6] (fun ov i wr => ∃ (k : Nat) (acc : List WantB), k < zs.length ∧ i = .int .i64 k ∧ acc.length ≤ k ∧ Hid (CStep (cutL 10 (bl s)) acc k) ∧ Hid (∀ f ∈ acc, SmallW f) ∧ Hid (WOwn wr we.heap.size ov acc) ∧ Hid (Below we.heap.size we wr)) (fun _ i _ => zs.length - (intOf i).toNat)
  case atStart => exact ⟨0, [], hz0, rfl, Nat.le_refl _, CStep.zero _, (fun f h => by cases h), WOwn.nil _ _, Below.refl _ _⟩
  case round =>
    obtain ⟨k, acc, hk, rfl, hacc, HCS, HSM, HO, Bq⟩ := hrel
    obtain ⟨b, off, rfl, hbl, hcell⟩ := HM.out k hk
    obtain ⟨oo, oc, rfl⟩ := HO.out.shape
    have Bw := Lib.hid (B1.out.trans (Bq.out.mono B1.out.size))
    have hc0 := (Bq.out.cell (p := ⟨b, off + k, none⟩) hbl).trans (hcell k hk)
    have hlenC : Hid (zs.length = (cutL 10 (bl s)).length) := by show _ = _; rw [← HZC.out, List.length_map]
    have hgetC : Hid (∀ (h : k < (cutL 10 (bl s)).length), (cutL 10 (bl s))[k] = bl zs[k]) := fun h => by
      have : (cutL 10 (bl s))[k]? = (zs.map bl)[k]? := by rw [HZC.out]
      rw [List.getElem?_eq_getElem h, List.getElem?_eq_getElem (by rw [List.length_map]; exact hk), List.getElem_map] at this
      exact Option.some.inj this
    have HLA : Hid (k + 1 = zs.length → bl zs[k] = [] → readLk (bl s) = if (lockEr acc).code ≠ 0 then (lockEr acc, []) else (⟨0, none⟩, acc)) := fun h h0 => HCS.out.last (by rw [← hlenC.out]; exact h) (by rw [hgetC.out]; exact h0)
    have HTA : Hid (k + 1 = zs.length → bl zs[k] ≠ [] → readLk (bl s) = (⟨1, some (k : Int)⟩, [])) := fun h h0 => HCS.out.tail (by rw [← hlenC.out]; exact h) (by rw [hgetC.out]; exact h0)
    have HBA : Hid (∀ c, k + 1 < zs.length → (readW (bl zs[k])).1 = c + 1 → readLk (bl s) = (⟨c + 1, some (k : Int)⟩, [])) := fun c h h0 => HCS.out.bad (by rw [← hlenC.out]; exact h) (by rw [hgetC.out]; exact h0)
    have HNX : Hid (k + 1 < zs.length → (readW (bl zs[k])).1 = 0 → CStep (cutL 10 (bl s)) (acc ++ [(readW (bl zs[k])).2]) (k + 1)) := fun h h0 => by
      have := HCS.out.next (by rw [← hlenC.out]; exact h) (by rw [hgetC.out]; exact h0)
      rwa [hgetC.out] at this
    have hsz : zs[k].size ≤ s.size := by
      have := cutL_size 10 (bl s) (bl zs[k]) (by rw [← HZC.out]; exact List.mem_map.2 ⟨_, List.getElem_mem _, rfl⟩)
      rwa [bl_length, bl_length] at this
    clear hcell hlenC hgetC HCS
    obtain ⟨x, hx⟩ : ∃ x, zs[k] = x := ⟨_, rfl⟩
    rw [hx] at hc0 HLA HTA HBA HNX hsz
    clear hx
    have hkl : (k : Int) < (zs.length : Int) := by omega
    by_cases hlast : k + 1 = zs.length
    · have e1 : ((k : Int) == (zs.length : Int) - 1) = true := by rw [beq_iff_eq]; omega
      have HL1 := Lib.hid (HLA.out hlast)
      have HT1 := Lib.hid (HTA.out hlast)
      clear HLA HTA HBA HNX hlast
      by_cases h0 : bl x = []
      · have g0 : x.toList.isEmpty = true := by rw [toList_bl, h0]; rfl
        have HY := Lib.hid (HL1.out h0)
        clear HL1 HT1 h0
        have hacn : acc.length ≤ 100000 := by omega
        have C := Lib.hid (refLockFault_any (.slice oo acc.length oc) acc wr HO.out.arg.1 hacn HSM.out)
        go_wp2_with fail
        refine C.out.mono ?_
        clear C hc0
        rintro e w3 ⟨rfl, hb3⟩
        obtain ⟨c, hc⟩ : ∃ c, (lockEr acc).code = c := ⟨_, rfl⟩
        obtain ⟨a, ha⟩ : ∃ a : Int, (lockEr acc).at?.getD (-1) = a := ⟨_, rfl⟩
        have HC := Lib.hid hc
        have HA := Lib.hid ha
        rw [show erA (lockEr acc) = #[.int .i64 c, .int .i64 a] by unfold erA; rw [hc, ha]]
        obtain ⟨q, hq⟩ : ∃ q, w3.heap.size = q := ⟨_, rfl⟩
        obtain ⟨w4, hw4⟩ : ∃ w4, w3.alloc (.cells #[.int .i64 c, .int .i64 a] 59) = w4 := ⟨_, rfl⟩
        have hal4 : Below w3.heap.size w3 w4 := by rw [← hw4]; exact (Below.refl _ _).alloc (Nat.le_refl _) _
        have FQ := Lib.hid (show FaultAt w4 q c a by rw [← hw4, ← hq]; exact FaultAt.new w3 _ _)
        have Bq4 := Lib.hid ((Bq.out.trans (hb3.mono Bq.out.size)).trans (hal4.mono (Nat.le_trans Bq.out.size hb3.size)))
        have F4 := Lib.hid (F1.out.ext Bq4.out)
        have B4 := Lib.hid (B1.out.trans (Bq4.out.mono B1.out.size))
        have HO4 := Lib.hid (HO.out.ext (hb3.trans (hal4.mono hb3.size)))
        have HW4 := Lib.hid hw4
        have HQ := Lib.hid hq
        clear hb3 hc ha hal4 hw4 hq HO
        obtain ⟨x0, x1, _, _⟩ := FQ.out.cells
        obtain ⟨y0, y1, y2, y3⟩ := F4.out.cells
        go_upto_region 14 with fail
        rw [HW4.out, HQ.out]
        by_cases hz : c = 0
        · subst hz
          rw [if_neg (by rw [HC.out]; simp)] at HY
          have HA1 : Hid (a = -1) := by
            show _ = _
            rw [← HA.out, ((lockOk_iff acc).1 HC.out).er]; rfl
          rw [show ((0 : Nat) : Int) = 0 from rfl] at x0 ⊢
          go_wp2_with fail
          go_region
          all_goals go_wp2_with fail
          obtain ⟨s0, s1, s2⟩ := fault_end F4.out 0 a w.heap.size hgw
          have HOZ := Lib.hid (wown_fault HO4.out hgw1 (.int .i64 0) (.int .i64 a))
          rw [HY.out]
          refine bodyPost_ret (v := .tuple #[.slice oo acc.length oc, .agg #[.int .i64 0, .int .i64 a]]) ?_ rfl (RSetPost.fault (c := 0) rfl (by show (-1 : Int) = a; exact HA1.out.symm) (WOwn.low (WOwn.ext HOZ.out (below_drewN _ _ 1)) B1.out.size) (B4.out.trans s2).drew)
          simp [results, Tryz.results30, go_sem, s0, s1]
        · rw [if_pos (by rw [HC.out]; exact hz)] at HY
          have hpos : (0 : Int) < (c : Int) := by omega
          clear hz
          go_wp2_with fail
          go_region
          all_goals go_wp2_with fail
          obtain ⟨s0, s1, s2⟩ := fault_end F4.out c a w.heap.size hgw
          rw [HY.out]
          refine bodyPost_ret (v := .tuple #[.slice none 0 0, .agg #[.int .i64 c, .int .i64 a]]) ?_ rfl (RSetPost.fault HC.out HA.out (WOwn.nil _ _) (B4.out.trans s2).drew)
          simp [results, Tryz.results30, go_sem, s0, s1]
      · have g0 : x.toList.isEmpty = false := by rw [toList_bl]; cases h : bl x with | nil => exact absurd h h0 | cons => rfl
        have HY := Lib.hid (HT1.out h0)
        obtain ⟨y0, y1, y2, y3⟩ := (F1.out.ext Bq.out).cells
        clear HL1 HT1 h0
        go_wp2_with fail
        obtain ⟨s0, s1, s2⟩ := fault_end (F1.out.ext Bq.out) 1 (k : Int) w.heap.size hgw
        rw [HY.out]
        refine bodyPost_ret (v := .tuple #[.slice none 0 0, .agg #[.int .i64 1, .int .i64 k]]) ?_ rfl (RSetPost.fault (c := 1) rfl rfl (WOwn.nil _ _) (Bw.out.trans s2))
        simp [results, Tryz.results30, go_sem, s0, s1]
    · have e1 : ((k : Int) == (zs.length : Int) - 1) = false := by rw [beq_eq_false_iff_ne]; omega
      have hlt : k + 1 < zs.length := by omega
      have HB1 := Lib.hid (fun c => HBA.out c hlt)
      have HN1 := Lib.hid (HNX.out hlt)
      clear HLA HTA HBA HNX hlast
      have C := Lib.hid (refReadWant_any x wr (by omega))
      go_wp2_with fail
      refine C.out.mono ?_
      clear C hc0
      rintro e w3 ⟨rfl, hb3⟩
      obtain ⟨rr, hrr⟩ : ∃ rr, readW (bl x) = rr := ⟨_, rfl⟩
      have hsm : rr.1 = 0 → rr.2.name.size ≤ s.size ∧ rr.2.url.size ≤ s.size ∧ rr.2.kind.size ≤ s.size := fun h => by
        rw [← hrr] at h ⊢
        have := readW_small (s := bl x) h
        rw [bl_length] at this
        omega
      have HSX := Lib.hid hsm
      rw [hrr] at HB1 HN1 ⊢
      clear hrr hsm
      obtain ⟨rc, y⟩ := rr
      rw [show wV ((rc, y) : Nat × WantB).2 = .agg #[.string y.name, .string y.url, .string y.kind, .int .i64 y.strip, .int .i64 y.sum] from rfl]
      have Bq3 := Lib.hid (Bq.out.trans (hb3.mono Bq.out.size))
      have HO3 := Lib.hid (HO.out.ext hb3)
      obtain ⟨pf, hpf⟩ : ∃ pf, w3.heap.size = pf := ⟨_, rfl⟩
      obtain ⟨wa, hwa⟩ : ∃ wa, w3.alloc (.cells #[.string y.name, .string y.url, .string y.kind, .int .i64 y.strip, .int .i64 y.sum] 41) = wa := ⟨_, rfl⟩
      have hal : Below w3.heap.size w3 wa := by rw [← hwa]; exact (Below.refl _ _).alloc (Nat.le_refl _) _
      have BX := Lib.hid (show WBox wa pf y by rw [← hwa, ← hpf]; exact WBox.new w3 y)
      have Bqa := Lib.hid (Bq3.out.trans (hal.mono Bq3.out.size))
      have HOa := Lib.hid (HO3.out.ext hal)
      have HPF := Lib.hid hpf
      have HWA := Lib.hid hwa
      clear hal hpf hwa hb3 HO3 HO
      go_upto_region 10 with fail
      rw [HWA.out, HPF.out]
      cases rc with
      | succ c =>
        have HY := Lib.hid (HB1.out c rfl)
        have hpos : (0 : Int) < (c : Int) + 1 := by omega
        obtain ⟨y0, y1, y2, y3⟩ := (F1.out.ext Bqa.out).cells
        rw [show (((c + 1, y) : Nat × WantB).1 : Int) = (c : Int) + 1 from rfl]
        clear HB1 HN1 HSX HOa
        go_wp2_with fail
        obtain ⟨s0, s1, s2⟩ := fault_end (F1.out.ext Bqa.out) ((c : Int) + 1) (k : Int) w.heap.size hgw
        rw [HY.out]
        refine bodyPost_ret (v := .tuple #[.slice none 0 0, .agg #[.int .i64 ((c : Int) + 1), .int .i64 k]]) ?_ rfl (RSetPost.fault (c := c + 1) rfl rfl (WOwn.nil _ _) ((B1.out.trans (Bqa.out.mono B1.out.size)).trans s2))
        simp [results, Tryz.results30, go_sem, s0, s1]
      | zero =>
        have HN2 := Lib.hid (HN1.out rfl)
        have HSM2 : Hid (∀ f ∈ acc ++ [y], SmallW f) := fun f hf => by
          rcases List.mem_append.1 hf with h | h
          · exact HSM.out f h
          · obtain rfl := List.mem_singleton.1 h
            have := HSX.out rfl
            have t1 : f.name.size ≤ s.size := this.1
            have t2 : f.url.size ≤ s.size := this.2.1
            have t3 : f.kind.size ≤ s.size := this.2.2
            exact ⟨by omega, by omega, by omega⟩
        rw [show (((0, y) : Nat × WantB).1 : Int) = 0 from rfl]
        obtain ⟨c0, c1, c2, c3, c4⟩ := BX.out.cells
        clear HB1 HN1 HSX HSM
        go_wp2_with (at_builtin; refine wpList_append_wants rfl _ _ rfl we.heap.size (.slice oo acc.length oc) acc rfl (HOa.out.ext ((Below.refl _ _).alloc (Nat.le_refl _) _)) _ [y] rfl (WSrc.one wa y _) (by simp; omega) (Nat.le_trans Bqa.out.size (by simp)) ?_)
        intro ov4 w4 HO4 HB4'
        have Bq4 := Lib.hid (HB4'.out we (Bqa.out.alloc Bqa.out.size _))
        clear HB4' c0 c1 c2 c3 c4 BX HOa
        go_wp2_with fail
        go_roundw
        case rel => exact ⟨k + 1, acc ++ [y], by omega, by go_num, by simp; omega, HN2, HSM2, HO4, Bq4⟩
        case measure => simp [intOf]; omega
end Go.Proofs.YtgchgdkpipanjaaGreatDoor
