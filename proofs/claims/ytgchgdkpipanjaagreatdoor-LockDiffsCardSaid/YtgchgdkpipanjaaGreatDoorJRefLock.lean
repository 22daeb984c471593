/- The reference's FindWant, SameWants, LockFault: contracts; the law's longWants. -/
import Derived.Test.YtgchgdkpipanjaaGreatDoorJLockUp
import Derived.Test.YtgchgdkpipanjaaGreatDoorJWantSlices
import Derived.Test.YtgchgdkpipanjaaGreatDoorJRefWantsUp
import Derived.Test.YtgchgdkpipanjaaGreatDoorJTold
import Derived.Test.YtgchgdkpipanjaaGreatDoorJFiles
import Derived.Test.YtgchgdkpipanjaaGreatDoorJWanted
namespace Go.Proofs.YtgchgdkpipanjaaGreatDoor
open Go Go.RowKit

set_option maxHeartbeats 1000000 in
set_option maxRecDepth 100000 in
theorem refFindWant_any (v : Value) (l : List WantB) (p : ByteArray) (w : World) (hv : WRow w v l) (hl : l.length ≤ 100000) :
    Calls Tryz.prog 35 #[v, .string p] w (WantIxPost l p w) := by
  have HV := Lib.hid hv
  obtain ⟨ao, cap, rfl⟩ := hv.len
  clear hv
  go_enter Tryz.func35, Tryz.ntmps35
  go_wp2_with fail
  go_loopw [5] (fun i wr => ∃ k : Nat, k ≤ l.length ∧ i = .int .i64 k ∧ Hid (∀ f ∈ l.take k, f.name ≠ p) ∧ Below w.heap.size w wr) (fun i _ => l.length - (intOf i).toNat)
  case atStart => exact ⟨0, Nat.zero_le _, rfl, (fun f h => by cases h), Below.refl _ _⟩
  case round =>
    obtain ⟨k, hk, rfl, HA, hb⟩ := hrel
    by_cases hlt : k < l.length
    · obtain ⟨b, off, rfl, hcell⟩ := HV.out.at hlt
      obtain ⟨q0, _, _, _, _⟩ := hcell wr hb
      have HT : Hid (l[k].name ≠ p → ∀ f ∈ l.take (k + 1), f.name ≠ p) := fun hne f hf => by
        rw [List.take_succ_eq_append_getElem hlt] at hf
        rcases List.mem_append.1 hf with h | h
        · exact HA.out f h
        · obtain rfl := List.mem_singleton.1 h; exact hne
      have eq := str_eqb l[k].name p
      by_cases hq : l[k].name = p
      · have HQ := Lib.hid (findW_first HA.out hlt hq)
        rw [decide_eq_true hq] at eq
        obtain ⟨f, hf⟩ : ∃ f, l[k] = f := ⟨_, rfl⟩
        rw [hf] at q0 eq
        clear hq HT HA hf hcell
        go_wp2_with fail
        go_ret
        exact ⟨by rw [HQ.out]; rfl, hb⟩
      · have HQ := Lib.hid (HT.out hq)
        rw [decide_eq_false hq] at eq
        obtain ⟨f, hf⟩ : ∃ f, l[k] = f := ⟨_, rfl⟩
        rw [hf] at q0 eq
        clear hq HT HA hf hcell
        go_wp2_with fail
        go_roundw
        case rel => exact ⟨k + 1, by omega, by go_num, HQ, hb⟩
        case measure => simp [intOf]; omega
    · obtain rfl : k = l.length := by omega
      have HQ : Hid (∀ f ∈ l, f.name ≠ p) := by have := HA.out; rwa [List.take_length] at this
      clear HA
      go_wp2_with fail
      go_ret
      exact ⟨by rw [findW_none.2 HQ.out]; rfl, hb⟩

theorem want_eq (f g : WantB) : f = g ↔ f.name = g.name ∧ f.url = g.url ∧ f.kind = g.kind ∧ f.strip = g.strip ∧ f.sum = g.sum := by cases f; cases g; simp
theorem int_eqb (a b : Int) : (a == b) = decide (a = b) := by
  by_cases h : a = b
  · subst h; simp
  · rw [decide_eq_false h, beq_eq_false_iff_ne]; exact h

set_option maxHeartbeats 2000000 in
set_option maxRecDepth 100000 in
theorem sameWants_any {w : World} {v u : Value} {l m : List WantB} (hv : WRow w v l) (hu : WRow w u m) (hn : l.length ≤ 1000000) :
    Calls Tryz.prog 12 #[v, u] w fun e w' => e = .returned (.bool (decide (l = m))) ∧ Below w.heap.size w w' := by
  have HV := Lib.hid hv
  have HU := Lib.hid hu
  obtain ⟨ao, cap, rfl⟩ := hv.len
  obtain ⟨ao2, cap2, rfl⟩ := hu.len
  clear hv hu
  by_cases hlen : l.length = m.length
  · have HL := Lib.hid hlen
    have hn2 : m.length ≤ 1000000 := by omega
    obtain ⟨n, hnn⟩ : ∃ n, l.length = n := ⟨_, rfl⟩
    have HN := Lib.hid hnn
    rw [← hlen, hnn] at HU ⊢
    rw [hnn] at HV hn
    clear hlen hnn hn2
    go_enter Tryz.func12, Tryz.ntmps12
    go_wp2_with fail
    go_loopw [5] (fun i w1 => ∃ k : Nat, k ≤ n ∧ i = .int .i64 k ∧ Below w.heap.size w w1 ∧ Hid (l.take k = m.take k)) (fun i _ => n - (intOf i).toNat)
    case atStart => exact ⟨0, Nat.zero_le _, rfl, Below.refl _ _, rfl⟩
    case round =>
      obtain ⟨k, hk, rfl, hb, HK⟩ := hrel
      by_cases hlt : k < n
      · have hll : k < l.length := by rw [HN.out]; exact hlt
        have hlm : k < m.length := by rw [← HL.out]; exact hll
        obtain ⟨b, off, rfl, hcell⟩ := HV.out.at hll
        obtain ⟨b2, off2, rfl, hcell2⟩ := HU.out.at hlm
        obtain ⟨q0, q1, q2, q3, q4⟩ := hcell wr hb
        obtain ⟨p0, p1, p2, p3, p4⟩ := hcell2 wr hb
        clear hcell hcell2
        by_cases hq : l[k] = m[k]
        · have HK2 : Hid (l.take (k + 1) = m.take (k + 1)) := by
            show _ = _
            rw [List.take_succ_eq_append_getElem hll, List.take_succ_eq_append_getElem hlm, HK.out, hq]
          rw [hq] at q0 q1 q2 q3 q4
          clear hq HK
          generalize m[k] = f at q0 q1 q2 q3 q4 p0 p1 p2 p3 p4
          have e0 : (f.name.toList == f.name.toList) = true := beq_self_eq_true _
          have e1 : (f.url.toList == f.url.toList) = true := beq_self_eq_true _
          have e2 : (f.kind.toList == f.kind.toList) = true := beq_self_eq_true _
          have e3 : (f.strip == f.strip) = true := beq_self_eq_true _
          have e4 : (f.sum == f.sum) = true := beq_self_eq_true _
          clear hll hlm
          go_wp2_with fail
          go_quiet (fail)
          go_wp2_with fail
          go_roundw
          case rel => exact ⟨k + 1, by omega, by go_num, hb.trans ((below_drewN _ _ _).mono hb.size), HK2⟩
          case measure => simp [intOf]; omega
        · have HX : Hid (decide (l = m) = false) := decide_eq_false (fun e => hq (by simp [e]))
          generalize l[k] = f at q0 q1 q2 q3 q4 hq
          generalize m[k] = g at p0 p1 p2 p3 p4 hq
          have e0 := str_eqb f.name g.name
          have e1 := str_eqb f.url g.url
          have e2 := str_eqb f.kind g.kind
          have e3 := int_eqb f.strip g.strip
          have e4 := int_eqb f.sum g.sum
          have hf := (not_congr (want_eq f g)).1 hq
          clear hq HK hll hlm
          obtain ⟨b0, hb0⟩ : ∃ b0, decide (f.name = g.name) = b0 := ⟨_, rfl⟩
          obtain ⟨b1, hb1⟩ : ∃ b1, decide (f.url = g.url) = b1 := ⟨_, rfl⟩
          obtain ⟨b2', hb2⟩ : ∃ b1, decide (f.kind = g.kind) = b1 := ⟨_, rfl⟩
          obtain ⟨b3, hb3⟩ : ∃ b1, decide (f.strip = g.strip) = b1 := ⟨_, rfl⟩
          obtain ⟨b4, hb4⟩ : ∃ b1, decide (f.sum = g.sum) = b1 := ⟨_, rfl⟩
          rw [hb0] at e0
          rw [hb1] at e1
          rw [hb2] at e2
          rw [hb3] at e3
          rw [hb4] at e4
          have hnot : ¬ (b0 = true ∧ b1 = true ∧ b2' = true ∧ b3 = true ∧ b4 = true) := fun ⟨h0, h1, h2, h3, h4⟩ => hf ⟨of_decide_eq_true (hb0.trans h0), of_decide_eq_true (hb1.trans h1), of_decide_eq_true (hb2.trans h2), of_decide_eq_true (hb3.trans h3), of_decide_eq_true (hb4.trans h4)⟩
          clear hf hb0 hb1 hb2 hb3 hb4
          cases b0 <;> cases b1 <;> cases b2' <;> cases b3 <;> cases b4 <;> first | (exact absurd ⟨rfl, rfl, rfl, rfl, rfl⟩ hnot) | skip
          all_goals
            clear hnot
            go_wp2_with fail
            go_quiet (fail)
            go_wp2_with fail
            go_ret
            exact ⟨congrArg (fun b => Ending.returned (.bool b)) HX.out.symm, hb.trans ((below_drewN _ _ _).mono hb.size)⟩
      · obtain rfl : k = n := by omega
        have HX : Hid (decide (l = m) = true) := decide_eq_true (by have := HK.out; rwa [List.take_of_length_le (by rw [HN.out]; exact Nat.le_refl _), List.take_of_length_le (by rw [← HL.out, HN.out]; exact Nat.le_refl _)] at this)
        clear HK
        go_wp2_with fail
        go_ret
        exact ⟨congrArg (fun b => Ending.returned (.bool b)) HX.out.symm, hb⟩
  · have HX : Hid (decide (l = m) = false) := decide_eq_false (fun e => hlen (by rw [e]))
    have hne : ((l.length : Int) == (m.length : Int)) = false := by rw [beq_eq_false_iff_ne]; omega
    go_enter Tryz.func12, Tryz.ntmps12
    go_wp2_with fail
    go_ret
    exact ⟨congrArg (fun b => Ending.returned (.bool b)) HX.out.symm, Below.refl _ _⟩
end Go.Proofs.YtgchgdkpipanjaaGreatDoor
