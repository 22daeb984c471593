/- slices.Equal at files; tree.Same: contracts. -/
import Derived.Test.YtgchgdkpipanjaaGreatDoorJTreed
import Derived.Test.YtgchgdkpipanjaaGreatDoorJPlainly
namespace Go.Proofs.YtgchgdkpipanjaaGreatDoor
open Go Go.RowKit

theorem file_eq (f g : FileB) : f = g ↔ f.path = g.path ∧ f.run = g.run ∧ f.text = g.text := by
  constructor
  · rintro rfl; exact ⟨rfl, rfl, rfl⟩
  · cases f; cases g; rintro ⟨h1, h2, h3⟩; simp only at h1 h2 h3; subst h1; subst h2; subst h3; rfl
instance : DecidableEq FileB := fun f g => decidable_of_iff _ (file_eq f g).symm
theorem str_eqb (a b : ByteArray) : (a.toList == b.toList) = decide (a = b) := by
  by_cases h : a = b
  · subst h; simp
  · rw [decide_eq_false h, beq_eq_false_iff_ne]
    exact fun e => h (bl_inj (by rw [toList_bl, toList_bl] at e; exact e))

set_option maxHeartbeats 1000000 in
set_option maxRecDepth 100000 in
theorem equalFiles_any {w : World} {v u : Value} {l m : List FileB} (hv : FRow w v l) (hu : FRow w u m) (hn : l.length ≤ 1000000) :
    Calls Tryz.prog 67 #[v, u] w fun e w' => e = .returned (.bool (decide (l = m))) ∧ Below w.heap.size w w' := by
  obtain ⟨ao, cap, rfl, h1, h2, H3⟩ := hv
  obtain ⟨ao2, cap2, rfl, h4, h5, H6⟩ := hu
  have HM := Lib.hid H3
  have HN := Lib.hid H6
  clear H3 H6
  by_cases hlen : l.length = m.length
  · have HL := Lib.hid hlen
    have hn2 : m.length ≤ 1000000 := by omega
    rw [← hlen] at h4 ⊢
    clear hlen
    go_enter Tryz.func67, Tryz.ntmps67
    go_wp2_with fail
    go_loopw [13] (fun i w1 => ∃ k : Nat, k ≤ l.length ∧ i = .int .i64 k ∧ Below w.heap.size w w1 ∧ Hid (l.take k = m.take k)) (fun i _ => l.length - (intOf i).toNat)
    case atStart => exact ⟨0, Nat.zero_le _, rfl, Below.refl _ _, rfl⟩
    case round =>
      obtain ⟨k, hk, rfl, hb, HK⟩ := hrel
      by_cases hlt : k < l.length
      · have hlm : k < m.length := by rw [← HL.out]; exact hlt
        obtain ⟨b, off, rfl, hbl, hcell⟩ := HM.out k hlt
        obtain ⟨b2, off2, rfl, hbl2, hcell2⟩ := HN.out k hlm
        obtain ⟨q0, q1, q2⟩ := hcell k hlt
        obtain ⟨p0, p1, p2⟩ := hcell2 k hlm
        rw [← hb.cell (p := ⟨b, off + k * 3, none⟩) hbl] at q0
        rw [← hb.cell (p := ⟨b, off + k * 3 + 1, none⟩) hbl] at q1
        rw [← hb.cell (p := ⟨b, off + k * 3 + 2, none⟩) hbl] at q2
        rw [← hb.cell (p := ⟨b2, off2 + k * 3, none⟩) hbl2] at p0
        rw [← hb.cell (p := ⟨b2, off2 + k * 3 + 1, none⟩) hbl2] at p1
        rw [← hb.cell (p := ⟨b2, off2 + k * 3 + 2, none⟩) hbl2] at p2
        clear hcell hcell2
        by_cases hq : l[k] = m[k]
        · have HK2 : Hid (l.take (k + 1) = m.take (k + 1)) := by
            show _ = _
            rw [List.take_succ_eq_append_getElem hlt, List.take_succ_eq_append_getElem hlm, HK.out, hq]
          rw [hq] at q0 q1 q2
          clear hq HK
          generalize m[k] = f at q0 q1 q2 p0 p1 p2
          have e0 : (f.path.toList == f.path.toList) = true := beq_self_eq_true _
          have e1 : (f.run == f.run) = true := beq_self_eq_true _
          have e2 : (f.text.toList == f.text.toList) = true := beq_self_eq_true _
          go_wp2_with fail
          go_quiet (fail)
          go_wp2_with fail
          go_roundw
          case rel => exact ⟨k + 1, by omega, by go_num, hb.trans ((below_drewN _ _ _).mono hb.size), HK2⟩
          case measure => simp [intOf]; omega
        · have HX : Hid (decide (l = m) = false) := decide_eq_false (fun e => hq (by simp [e]))
          generalize l[k] = f at q0 q1 q2 hq
          generalize m[k] = g at p0 p1 p2 hq
          have eq0 := str_eqb f.path g.path
          have eq2 := str_eqb f.text g.text
          have hf := (not_congr (file_eq f g)).1 hq
          clear hq HK
          by_cases c0 : f.path = g.path
          · rw [decide_eq_true c0] at eq0
            by_cases c2 : f.text = g.text
            · rw [decide_eq_true c2] at eq2
              have eq1 : (f.run == g.run) = false := beq_eq_false_iff_ne.2 (fun e => hf ⟨c0, e, c2⟩)
              clear hf c0 c2
              go_wp2_with fail
              go_quiet (fail)
              go_wp2_with fail
              go_ret
              exact ⟨congrArg (fun b => Ending.returned (.bool b)) HX.out.symm, hb.trans ((below_drewN _ _ _).mono hb.size)⟩
            · rw [decide_eq_false c2] at eq2
              clear hf c0 c2
              go_wp2_with fail
              go_quiet (fail)
              go_wp2_with fail
              go_ret
              exact ⟨congrArg (fun b => Ending.returned (.bool b)) HX.out.symm, hb.trans ((below_drewN _ _ _).mono hb.size)⟩
          · rw [decide_eq_false c0] at eq0
            clear hf c0
            go_wp2_with fail
            go_quiet (fail)
            go_wp2_with fail
            go_ret
            exact ⟨congrArg (fun b => Ending.returned (.bool b)) HX.out.symm, hb.trans ((below_drewN _ _ _).mono hb.size)⟩
      · obtain rfl : k = l.length := by omega
        have HX : Hid (decide (l = m) = true) := decide_eq_true (by
          have := HK.out
          rwa [List.take_length, HL.out, List.take_length] at this)
        go_wp2_with fail
        go_ret
        exact ⟨congrArg (fun b => Ending.returned (.bool b)) HX.out.symm, hb⟩
  · have HX : Hid (decide (l = m) = false) := decide_eq_false (fun e => hlen (by rw [e]))
    have hi : ((l.length : Int) != (m.length : Int)) = true := by simp; omega
    clear hlen
    go_enter Tryz.func67, Tryz.ntmps67
    go_wp2_with fail
    go_ret
    exact ⟨congrArg (fun b => Ending.returned (.bool b)) HX.out.symm, Below.refl _ _⟩
end Go.Proofs.YtgchgdkpipanjaaGreatDoor
