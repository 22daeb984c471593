/- What is dropped, and put again, in plain Lean. chandleryref1.SameInts by its contract. -/
import Derived.Test.YtgchgdkpipanjaaGreatDoorJHeldUp
import Derived.Test.YtgchgdkpipanjaaGreatDoorJRowed
namespace Go.Proofs.YtgchgdkpipanjaaGreatDoor
open Go

theorem getL_at : ∀ {L : List (Int × List FileB)} {k : Nat} (hk : k < L.length), (L.map (·.1)).Nodup → getL L L[k].1 = some L[k].2
  | p :: L, 0, _, _ => by
    show (if p.1 = p.1 then some p.2 else _) = _
    rw [if_pos rfl]; rfl
  | p :: L, k + 1, hk, h => by
    rw [List.map_cons, List.nodup_cons] at h
    have hk' : k < L.length := by simpa using hk
    show (if p.1 = L[k].1 then some p.2 else getL L L[k].1) = some L[k].2
    rw [if_neg (fun e => h.1 (by rw [e]; exact List.mem_map.2 ⟨L[k], List.getElem_mem hk', rfl⟩)), getL_at hk' h.2]
end Go.Proofs.YtgchgdkpipanjaaGreatDoor

namespace Go.Proofs.YtgchgdkpipanjaaGreatDoor
open Go Go.RowKit

set_option maxHeartbeats 400000 in
theorem sameInts_any {w : World} {v u : Value} {l m : List Int} (hv : Row encInt 1 w v l) (hu : Row encInt 1 w u m) :
    Calls Tryz.prog 40 #[v, u] w fun e w' => e = .returned (.bool (decide (l = m))) ∧ Below w.heap.size w w' := by
  obtain ⟨ao, cap, rfl, h1, h2, H3⟩ := hv.parts
  obtain ⟨ao', cap', rfl, h1', h2', H3'⟩ := hu.parts
  have hl : l.length ≤ 9223372036854775807 := by rw [maxLen_eq] at h2; omega
  clear hv hu h1 h2 h1' h2'
  by_cases hlen : l.length = m.length
  · have hd : ((l.length : Int) != m.length) = false := by rw [hlen]; simp
    have HL := Lib.hid hlen
    have HM := Lib.hid H3
    have HM' := Lib.hid H3'
    clear H3 H3'
    go_enter Tryz.func40, Tryz.ntmps40
    clear hlen
    go_wp2
    go_loopw [5] (fun i w1 => ∃ k : Nat, k ≤ l.length ∧ i = .int .i64 k ∧ Hid (l.take k = m.take k) ∧ Below w.heap.size w w1) (fun i _ => l.length - (intOf i).toNat)
    case atStart => exact ⟨0, Nat.zero_le _, rfl, by simp [Hid], Below.refl _ _⟩
    case round =>
      obtain ⟨k, hk, rfl, HT, hb⟩ := hrel
      by_cases hlt : k < l.length
      · have hlt' : k < m.length := by have := HL.out; omega
        obtain ⟨b, off, rfl, hbl, hcell⟩ := HM.out k hlt
        obtain ⟨b', off', rfl, hbl', hcell'⟩ := HM'.out k hlt'
        have c := hcell k hlt
        have c' := hcell' k hlt'
        rw [← hb.cell (p := ⟨b, off + k, none⟩) hbl] at c
        rw [← hb.cell (p := ⟨b', off' + k, none⟩) hbl'] at c'
        clear hcell hcell'
        cases hx : (l[k] != m[k])
        · go_wp2
          go_quiet (fail)
          go_wp2
          go_roundw
          case rel =>
            refine ⟨k + 1, by omega, by go_num, ?_, hb.trans (below_drewN _ _ _)⟩
            show List.take (k + 1) l = List.take (k + 1) m
            rw [List.take_succ_eq_append_getElem hlt, List.take_succ_eq_append_getElem hlt', HT.out, bne_eq_false_iff_eq.1 hx]
          case measure => simp [intOf]; omega
        · go_wp2
          go_quiet (fail)
          go_wp2
          go_ret
          refine ⟨?_, hb.trans (below_drewN _ _ _)⟩
          have hne : l ≠ m := by rintro rfl; simp at hx
          simp [hne]
      · have hkl : k = l.length := by omega
        have hfin : l = m := by
          have h := HT.out
          rw [List.take_of_length_le (by omega), List.take_of_length_le (by have := HL.out; omega)] at h
          exact h
        have HF := Lib.hid hfin
        clear hfin
        go_wp2
        go_ret
        exact ⟨by simp [HF.out], hb⟩
  · have hd : ((l.length : Int) != m.length) = true := by rw [bne_iff_ne]; omega
    have hne : l ≠ m := fun h => hlen (by rw [h])
    have HN := Lib.hid hne
    clear hne
    go_enter Tryz.func40, Tryz.ntmps40
    go_wp2
    go_ret
    exact ⟨by simp [HN.out], Below.refl _ _⟩
end Go.Proofs.YtgchgdkpipanjaaGreatDoor
