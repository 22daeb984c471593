/- package lock: Check, Text by their contracts. package lock: Text and Find by their contracts. -/
import Derived.Test.YtgchgdkpipanjaaGreatDoorJWantRows
import Derived.Test.YtgchgdkpipanjaaGreatDoorJWantsUp
import Derived.Test.YtgchgdkpipanjaaGreatDoorJLockPlains
import Derived.BigQuiet
import Derived.Test.YtgchgdkpipanjaaGreatDoorJWantSlices
namespace Go.Proofs.YtgchgdkpipanjaaGreatDoor
open Go Go.RowKit

def SmallW (x : WantB) : Prop := x.name.size ≤ 30000 ∧ x.url.size ≤ 100000 ∧ x.kind.size ≤ 30000
theorem IsErr.nil0 {E : Nat → Addr} {w : World} {v : Value} {er : Er} (h : IsErr E w v er) (h0 : er.code = 0) : v = .nilIface :=
  IsErr.nil_inv (a := er.at?) (by rw [show er = ⟨er.code, er.at?⟩ from rfl, h0] at h; exact h)
/-- What lock.Check hands back. -/
def LockPost (E : Nat → Addr) (er : Er) (w : World) (e : Ending) (w' : World) : Prop :=
  (∃ ev, e = .returned ev ∧ Hid (IsErr E w' ev er)) ∧ Below w.heap.size w w'
theorem leq_names (a b : ByteArray) : leqB (bl a) (bl b) = (Op.bytesLess a.toList b.toList || a.toList == b.toList) := by
  unfold leqB
  rw [toList_bl, toList_bl]

set_option maxHeartbeats 4000000 in
set_option maxRecDepth 100000 in
theorem lockCheck_any {E : Nat → Addr} (v : Value) (l : List WantB) (w : World) (hv : WRow w v l) (hl : l.length ≤ 100000) (hS : ∀ f ∈ l, SmallW f) (hE : FEnv E w) :
    Calls Tryz.prog 9 #[v] w (LockPost E (lockEr l) w) := by
  have HV := Lib.hid hv
  obtain ⟨ao, cap, rfl⟩ := hv.len
  have HSM := Lib.hid hS
  have HE := Lib.hid hE
  clear hS hE hv
  go_enter Tryz.func9, Tryz.ntmps9
  by_cases h20 : l.length ≤ 20
  · go_wp2_with fail
    go_loopw [12] (fun i wr => ∃ k : Nat, k ≤ l.length ∧ i = .int .i64 k ∧ Hid (lockGo none 0 l = lockGo (prevW l k) k (l.drop k)) ∧ Below w.heap.size w wr) (fun i _ => l.length - (intOf i).toNat)
    case atStart => exact ⟨0, Nat.zero_le _, rfl, rfl, Below.refl _ _⟩
    case round =>
      obtain ⟨k, hk, rfl, HF, hb⟩ := hrel
      by_cases hlt : k < l.length
      · obtain ⟨b, off, rfl, hcell⟩ := HV.out.at hlt
        obtain ⟨q0, q1, q2, q3, q4⟩ := hcell wr hb
        have HAT := Lib.hid (fun c => lockEr_at (c := c) h20 hlt HF.out)
        have HNX := Lib.hid (lockGo_next hlt HF.out)
        have HW := Lib.hid (fun c => lockE_want (c := c) hlt)
        have HFR := Lib.hid (fun h0 => lockE_from hlt h0)
        have HFI : Hid (k = 0 → wantE l[k] = 0 → lockE (prevW l k) l[k] = 0) := fun e h => by subst e; exact lockE_first hlt h
        have HPV : Hid (∀ h0 : 0 < k, ∀ W, Below w.heap.size w W → W.cell? ⟨b, off + (k - 1) * 5, none⟩ = some (.string (l[k - 1]'(by omega)).name)) := fun h0 W hW => by
          obtain ⟨b', off', e, h⟩ := HV.out.at (show k - 1 < l.length by omega)
          injection e with e
          injection e with e1 e2
          subst e1 e2
          exact (h W hW).1
        have sz := HSM.out l[k] (List.getElem_mem hlt)
        clear hcell
        obtain ⟨f, hf⟩ : ∃ f, l[k] = f := ⟨_, rfl⟩
        rw [hf] at q0 q1 q2 q3 q4 sz HAT HNX HW HFR HFI
        clear hf
        obtain ⟨pf, hpf⟩ : ∃ pf, wr.heap.size = pf := ⟨_, rfl⟩
        obtain ⟨wa, hwa⟩ : ∃ wa, wr.alloc (.cells #[.string f.name, .string f.url, .string f.kind, .int .i64 f.strip, .int .i64 f.sum] 41) = wa := ⟨_, rfl⟩
        have hal : Below wr.heap.size wr wa := by rw [← hwa]; exact (Below.refl _ _).alloc (Nat.le_refl _) _
        have BX := Lib.hid (show WBox wa pf f by rw [← hwa, ← hpf]; exact WBox.new wr f)
        have Ba := Lib.hid (hb.trans (hal.mono hb.size))
        have HPF := Lib.hid hpf
        have HWA := Lib.hid hwa
        have C := Lib.hid (wantCheck_any f wa (by have := sz.1; omega) (by have := sz.2.1; omega) (HE.out.ext Ba.out))
        clear hal hpf hwa hb
        go_upto_region 6 with fail
        rw [HWA.out, HPF.out]
        clear q0 q1 q2 q3 q4
        obtain ⟨c0, c1, c2, c3, c4⟩ := BX.out.cells
        go_wp2_with fail
        refine C.out.mono ?_
        clear C
        rintro e w1 ⟨rfl, hb1⟩
        have B1 := Lib.hid (Ba.out.trans (hb1.mono Ba.out.size))
        have BX1 := Lib.hid (BX.out.ext hb1)
        clear hb1 c0 c1 c2 c3 c4 BX
        obtain ⟨c0, _, _, _, _⟩ := BX1.out.cells
        cases hw : wantE f with
        | succ c =>
          have hle : c < 13 := by have := wantE_le f; omega
          have HY := Lib.hid (HAT.out c (HW.out c hw))
          rw [show errV E (c + 1) = sentV E c from rfl]
          clear HAT HNX HW HFR HFI hw HF
          go_wp2_with fail
          go_quiet (fail)
          obtain ⟨wq, hwq⟩ : ∃ wq, w1.drewN nq = wq := ⟨_, rfl⟩
          have Bq : Hid (Below w.heap.size w wq) := by show Below _ _ _; rw [← hwq]; exact B1.out.trans ((below_drewN _ w1 nq).mono B1.out.size)
          rw [hwq]
          clear hwq c0 B1
          go_wp2_with fail
          go_ret
          refine ⟨⟨_, rfl, ?_⟩, Bq.out.alloc Bq.out.size _⟩
          show IsErr _ _ _ _
          rw [HY.out]
          exact IsErr.fault E _ (c) (by omega) _ _ (by rw [World.cell?_alloc_at _ _ _ _ rfl]; rfl) (by rw [World.cell?_alloc_at _ _ _ _ rfl]; rfl)
        | zero =>
          rw [show errV E 0 = .nilIface from rfl]
          by_cases hk0 : k = 0
          · have HF2 : Hid (lockGo none 0 l = lockGo (prevW l (k + 1)) (k + 1) (l.drop (k + 1))) := HNX.out (HFI.out hk0 hw)
            have hd0 : decide (0 < k) = false := decide_eq_false (by omega)
            have hkz : k ≤ 0 := by omega
            clear HAT HNX HW HFR HFI hw HF hk0 HPV
            go_wp2_with fail
            go_quiet (fail)
            go_wp2_with fail
            go_roundw
            case rel => exact ⟨k + 1, by omega, by go_num, HF2, B1.out.trans ((below_drewN _ w1 nq).mono B1.out.size)⟩
            case measure => simp [intOf]; omega
          · have h0 : 0 < k := by omega
            have hE := HFR.out h0 hw
            have p0 := HPV.out h0 w1 B1.out
            obtain ⟨g, hg⟩ : ∃ g, l[k - 1]'(by omega) = g := ⟨_, rfl⟩
            rw [hg] at hE p0
            have hwr : IntKind.i64.wrap ((k : Int) - 1) = ((k - 1 : Nat) : Int) := by rw [IntWalk.i64_in _ (by omega)]; omega
            have hd0 : decide (0 < k) = true := decide_eq_true (by omega)
            have hkl : ((k - 1 : Nat) : Int) < (l.length : Int) := by omega
            obtain ⟨lq, hlq⟩ : ∃ lq, (Op.bytesLess f.name.toList g.name.toList || f.name.toList == g.name.toList) = lq := ⟨_, rfl⟩
            have HEQ : Hid (lockE (prevW l k) f = if lq = true then 9 else 0) := by show _ = _; rw [hE, leq_names, hlq]
            have HLQ := Lib.hid hlq
            clear hE hg hlq hw HW HFR HFI HPV
            go_wp2_with fail
            go_quiet (fail)
            clear hwr hkl hd0 p0
            rw [HLQ.out]
            obtain ⟨wq, hwq⟩ : ∃ wq, w1.drewN nq = wq := ⟨_, rfl⟩
            have Bq : Hid (Below w.heap.size w wq) := by show Below _ _ _; rw [← hwq]; exact B1.out.trans ((below_drewN _ w1 nq).mono B1.out.size)
            rw [hwq]
            clear hwq c0 B1
            cases lq with
            | true =>
              have HY := Lib.hid (HAT.out 8 (by rw [HEQ.out]; rfl))
              have e1 : wq.cell? ⟨1, 0, none⟩ = some (sentV E 8) := (HE.out.ext Bq.out).1.err 8 (by decide)
              clear HAT HNX HEQ HF
              go_wp2_with fail
              go_ret
              refine ⟨⟨_, rfl, ?_⟩, Bq.out.alloc Bq.out.size _⟩
              show IsErr _ _ _ _
              rw [HY.out]
              exact IsErr.fault E _ (8) (by omega) _ _ (by rw [World.cell?_alloc_at _ _ _ _ rfl]; rfl) (by rw [World.cell?_alloc_at _ _ _ _ rfl]; rfl)
            | false =>
              have HF2 : Hid (lockGo none 0 l = lockGo (prevW l (k + 1)) (k + 1) (l.drop (k + 1))) := HNX.out (by rw [HEQ.out]; rfl)
              clear HAT HNX HEQ HF
              go_wp2_with fail
              go_roundw
              case rel => exact ⟨k + 1, by omega, by go_num, HF2, Bq.out⟩
              case measure => simp [intOf]; omega
      · obtain rfl : k = l.length := by omega
        have HY := Lib.hid (lockEr_end h20 HF.out)
        clear HF
        go_wp2_with fail
        go_ret
        exact ⟨⟨_, rfl, by show IsErr _ _ _ _; rw [HY.out]; exact .inl ⟨rfl, rfl⟩⟩, hb⟩
  · have HY := Lib.hid (lockEr_many (l := l) (by omega))
    have c1 : w.cell? ⟨0, 0, none⟩ = some (sentV E 7) := HE.out.1.err 7 (by decide)
    go_wp2_with fail
    go_ret
    exact ⟨⟨_, rfl, by show IsErr _ _ _ _; rw [HY.out]; exact IsErr.base E _ 7 (by decide)⟩, Below.refl _ _⟩
end Go.Proofs.YtgchgdkpipanjaaGreatDoor

namespace Go.Proofs.YtgchgdkpipanjaaGreatDoor
open Go Go.RowKit

theorem wantTx_len (x : WantB) : (wantTx x).length ≤ x.name.size + x.url.size + x.kind.size + 30 := by
  by_cases h : wantE x = 0
  · obtain ⟨n1, n2, n3, n4⟩ := want_nums h
    have d1 : (Lib.decDigits x.strip.toNat).length ≤ 10 := decDigits_len_le 9 _ (by omega)
    have d2 : (Lib.decDigits x.sum.toNat).length ≤ 10 := decDigits_len_le 9 _ (by omega)
    rw [wantTx_is h]
    simp only [List.length_append, List.length_cons, bl_length]
    omega
  · unfold wantTx
    rw [if_pos h]
    simp
/-- What lock.Text hands back. -/
def LTextPost (E : Nat → Addr) (l : List WantB) (w : World) (e : Ending) (w' : World) : Prop :=
  (∃ (t : ByteArray) (ev : Value), e = .returned (.tuple #[.string t, ev]) ∧ Hid (bl t = if (lockEr l).code = 0 then lockTx l else []) ∧ Hid (IsErr E w' ev (lockEr l))) ∧ Below w.heap.size w w'

set_option maxHeartbeats 4000000 in
set_option maxRecDepth 100000 in
theorem lockText_any {E : Nat → Addr} (v : Value) (l : List WantB) (w : World) (hv : WRow w v l) (hl : l.length ≤ 100000) (hS : ∀ f ∈ l, SmallW f) (hE : KEnv E w) :
    Calls Tryz.prog 10 #[v] w (LTextPost E l w) := by
  have HV := Lib.hid hv
  have C := Lib.hid (lockCheck_any v l w hv hl hS hE.1)
  obtain ⟨ao, cap, rfl⟩ := hv.len
  have HSM := Lib.hid hS
  have HE := Lib.hid hE
  clear hS hE hv
  go_enter Tryz.func10, Tryz.ntmps10
  go_wp2_with fail
  refine C.out.mono ?_
  clear C
  rintro e w1 ⟨⟨ev, rfl, HI⟩, hb1⟩
  by_cases hz : (lockEr l).code = 0
  rotate_left
  · obtain ⟨t, x, rfl⟩ := HI.out.some_inv hz
    have HT : Hid (bl ⟨#[]⟩ = if (lockEr l).code = 0 then lockTx l else []) := by show _ = _; rw [if_neg hz]; rfl
    clear hz
    go_wp2_with fail
    go_ret2
    exact ⟨⟨_, _, rfl, HT, HI⟩, hb1⟩
  · obtain rfl : ev = .nilIface := HI.out.nil0 hz
    have hok := (lockOk_iff l).1 hz
    have hl20 := hok.few
    have HQ : Hid (lockTx l = if (lockEr l).code = 0 then lockTx l else []) := by show _ = _; rw [if_pos hz]
    have HER := Lib.hid hok.er
    have B1 := Lib.hid hb1
    clear hz HI hok hb1
    go_wp2_with fail
    go_loopw [5, 15] (fun sv i wr => ∃ (k : Nat) (s : ByteArray), k ≤ l.length ∧ i = .int .i64 k ∧ sv = .string s ∧ Hid (bl s = lockTx (l.take k)) ∧ s.size ≤ 170000 * k ∧ Below w.heap.size w wr) (fun _ i _ => l.length - (intOf i).toNat)
    case atStart => exact ⟨0, ⟨#[]⟩, Nat.zero_le _, rfl, rfl, rfl, Nat.zero_le _, B1.out⟩
    case round =>
      obtain ⟨k, s, hk, rfl, rfl, HAC, hlen, hb⟩ := hrel
      by_cases hlt : k < l.length
      · obtain ⟨b, off, rfl, hcell⟩ := HV.out.at hlt
        obtain ⟨q0, q1, q2, q3, q4⟩ := hcell wr hb
        have sz := HSM.out l[k] (List.getElem_mem hlt)
        have HTK : Hid (bl s ++ (wantTx l[k] ++ [10]) = lockTx (l.take (k + 1))) := by show _ = _; rw [lockTx_take hlt, HAC.out]
        have htl := wantTx_len l[k]
        clear hcell HAC
        obtain ⟨f, hf⟩ : ∃ f, l[k] = f := ⟨_, rfl⟩
        rw [hf] at q0 q1 q2 q3 q4 sz HTK htl
        clear hf
        obtain ⟨pf, hpf⟩ : ∃ pf, wr.heap.size = pf := ⟨_, rfl⟩
        obtain ⟨wa, hwa⟩ : ∃ wa, wr.alloc (.cells #[.string f.name, .string f.url, .string f.kind, .int .i64 f.strip, .int .i64 f.sum] 41) = wa := ⟨_, rfl⟩
        have hal : Below wr.heap.size wr wa := by rw [← hwa]; exact (Below.refl _ _).alloc (Nat.le_refl _) _
        have BX := Lib.hid (show WBox wa pf f by rw [← hwa, ← hpf]; exact WBox.new wr f)
        have Ba := Lib.hid (hb.trans (hal.mono hb.size))
        have HPF := Lib.hid hpf
        have HWA := Lib.hid hwa
        have sz0 := sz.1
        have sz1 := sz.2.1
        have sz2 := sz.2.2
        have C := Lib.hid (wantText_any f wa (by omega) (by omega) (by omega) (HE.out.ext Ba.out))
        have hss : s.size ≤ 3400000 := by omega
        clear hal hpf hwa hb sz
        go_upto_region 8 with fail
        rw [HWA.out, HPF.out]
        clear q0 q1 q2 q3 q4
        obtain ⟨c0, c1, c2, c3, c4⟩ := BX.out.cells
        go_wp2_with fail
        refine C.out.mono ?_
        clear C
        rintro e w2 ⟨⟨t, rfl, HT⟩, hb2⟩
        have B2 := Lib.hid (Ba.out.trans (hb2.mono Ba.out.size))
        have ht : t.size ≤ 160030 := by rw [← bl_length, HT.out]; omega
        have n1 : ¬ 9223372036854775807 < t.size + 1 := by omega
        have n2 : ¬ 9223372036854775807 < s.size + (t.size + 1) := by omega
        have HX : Hid (bl (s ++ (t ++ ⟨#[10]⟩)) = lockTx (l.take (k + 1))) := by
          show _ = _
          rw [← HTK.out, bl_append, bl_append, HT.out]; rfl
        have HLN : Hid ((s ++ (t ++ ⟨#[10]⟩)).size ≤ 170000 * (k + 1)) := by
          show _ ≤ _
          have h1 : (bl (s ++ (t ++ ⟨#[10]⟩))).length = s.size + (t.size + 1) := by
            rw [bl_append, bl_append, List.length_append, List.length_append, bl_length, bl_length]; rfl
          rw [bl_length] at h1; omega
        clear hb2 c0 c1 c2 c3 c4 BX Ba HTK HT htl
        go_wp2_with fail
        go_roundw
        case rel => exact ⟨k + 1, _, by omega, by go_num, rfl, HX, HLN.out, B2.out⟩
        case measure => simp [intOf]; omega
      · obtain rfl : k = l.length := by omega
        have HT : Hid (bl s = if (lockEr l).code = 0 then lockTx l else []) := by show _ = _; rw [← HQ.out, HAC.out, List.take_length]
        clear HAC
        go_wp2_with fail
        go_ret2
        exact ⟨⟨s, _, rfl, HT, by show IsErr _ _ _ _; rw [HER.out]; exact .inl ⟨rfl, rfl⟩⟩, hb⟩

set_option maxRecDepth 100000 in
theorem lockFind_any (v : Value) (l : List WantB) (p : ByteArray) (w : World) (hv : WRow w v l) (hl : l.length ≤ 100000) :
    Calls Tryz.prog 16 #[v, .string p] w (WantIxPost l p w) := by
  obtain ⟨tb, htb⟩ : ∃ tb, w.heap.size = tb := ⟨_, rfl⟩
  obtain ⟨w0, hw0⟩ : ∃ w0, w.alloc (.cells #[.string p] 9) = w0 := ⟨_, rfl⟩
  have hB : Below w.heap.size w w0 := by rw [← hw0]; exact (Below.refl _ w).alloc (Nat.le_refl _) _
  have hT : w0.heap[tb]? = some (.cells #[.string p] 9 (0, 0)) := by rw [← hw0, ← htb]; exact heap_alloc_new w _
  have C := Lib.hid (indexName_any v l p tb w0 (hv.ext hB) hl (by rw [Lib.cell_of_heap hT]; rfl))
  have HA := Lib.hid hB
  have HW0 := Lib.hid hw0
  have HTB := Lib.hid htb
  obtain ⟨ao, cap, rfl⟩ := hv.len
  clear hB hv hT hw0 htb
  go_enter Tryz.func16, Tryz.ntmps16
  go_wp2_with fail
  rw [HW0.out, HTB.out]
  refine C.out.mono ?_
  clear C
  rintro e w1 ⟨rfl, hb1⟩
  go_wp2_with fail
  go_ret
  exact ⟨rfl, HA.out.trans (hb1.mono HA.out.size)⟩
end Go.Proofs.YtgchgdkpipanjaaGreatDoor
