/- package lock: Check, Text by their contracts. package lock: Text and Find by their contracts. What lock.Set needs: where a want goes, and a want written over. How lock.Set compares. package lock: Set and Drop by their contracts. -/
import Derived.Test.YtgchgdkpipanjaaGreatDoorKWantAll
import Derived.Test.YtgchgdkpipanjaaGreatDoorKWantsUp
import Derived.Test.YtgchgdkpipanjaaGreatDoorKLockPlains
import Derived.BigQuiet
import Derived.Test.YtgchgdkpipanjaaGreatDoorKWantAppends
namespace Go.Proofs.YtgchgdkpipanjaaGreatDoor
open Go Go.RowKit

def SmallW (x : WantB) : Prop := x.name.size ≤ 30000 ∧ x.url.size ≤ 100000 ∧ x.kind.size ≤ 30000
theorem IsErr.nil0 {E : Nat → Addr} {w : World} {v : Value} {er : Er} (h : IsErr E w v er) (h0 : er.code = 0) : v = .nilIface :=
  IsErr.nil_inv (a := er.at?) (by rw [show er = ⟨er.code, er.at?⟩ from rfl, h0] at h; exact h)
/-- What lock.Check hands back. -/
def LockPost (E : Nat → Addr) (er : Er) (w : World) (e : Ending) (w' : World) : Prop :=
  (∃ ev, e = .returned ev ∧ Hid (IsErr E w' ev er)) ∧ Below w.heap.size w w'
theorem leq_names (a b : ByteArray) : leqB (bl a) (bl b) = (Op.bytesLess a.toList b.toList || a.toList == b.toList) := by
  unfold leqB
  rw [toList_bl, toList_bl]

set_option maxHeartbeats 4000000 in
set_option maxRecDepth 100000 in
theorem lockCheck_any {E : Nat → Addr} (v : Value) (l : List WantB) (w : World) (hv : WRow w v l) (hl : l.length ≤ 100000) (hS : ∀ f ∈ l, SmallW f) (hE : FEnv E w) :
    Calls Tryz.prog 9 #[v] w (LockPost E (lockEr l) w) := by
  have HV := Lib.hid hv
  obtain ⟨ao, cap, rfl⟩ := hv.len
  have HSM := Lib.hid hS
  have HE := Lib.hid hE
  clear hS hE hv
  go_enter Tryz.func9, Tryz.ntmps9
  by_cases h20 : l.length ≤ 20
  · go_wp2_with fail
    go_loopw [12] (fun i wr => ∃ k : Nat, k ≤ l.length ∧ i = .int .i64 k ∧ Hid (lockGo none 0 l = lockGo (prevW l k) k (l.drop k)) ∧ Below w.heap.size w wr) (fun i _ => l.length - (intOf i).toNat)
    case atStart => exact ⟨0, Nat.zero_le _, rfl, rfl, Below.refl _ _⟩
    case round =>
      obtain ⟨k, hk, rfl, HF, hb⟩ := hrel
      by_cases hlt : k < l.length
      · obtain ⟨b, off, rfl, hcell⟩ := HV.out.at hlt
        obtain ⟨q0, q1, q2, q3, q4⟩ := hcell wr hb
        have HAT := Lib.hid (fun c => lockEr_at (c := c) h20 hlt HF.out)
        have HNX := Lib.hid (lockGo_next hlt HF.out)
        have HW := Lib.hid (fun c => lockE_want (c := c) hlt)
        have HFR := Lib.hid (fun h0 => lockE_from hlt h0)
        have HFI : Hid (k = 0 → wantE l[k] = 0 → lockE (prevW l k) l[k] = 0) := fun e h => by subst e; exact lockE_first hlt h
        have HPV : Hid (∀ h0 : 0 < k, ∀ W, Below w.heap.size w W → W.cell? ⟨b, off + (k - 1) * 5, none⟩ = some (.string (l[k - 1]'(by omega)).name)) := fun h0 W hW => by
          obtain ⟨b', off', e, h⟩ := HV.out.at (show k - 1 < l.length by omega)
          injection e with e
          injection e with e1 e2
          subst e1 e2
          exact (h W hW).1
        have sz := HSM.out l[k] (List.getElem_mem hlt)
        clear hcell
        obtain ⟨f, hf⟩ : ∃ f, l[k] = f := ⟨_, rfl⟩
        rw [hf] at q0 q1 q2 q3 q4 sz HAT HNX HW HFR HFI
        clear hf
        obtain ⟨pf, hpf⟩ : ∃ pf, wr.heap.size = pf := ⟨_, rfl⟩
        obtain ⟨wa, hwa⟩ : ∃ wa, wr.alloc (.cells #[.string f.name, .string f.url, .string f.kind, .int .i64 f.strip, .int .i64 f.sum] 41) = wa := ⟨_, rfl⟩
        have hal : Below wr.heap.size wr wa := by rw [← hwa]; exact (Below.refl _ _).alloc (Nat.le_refl _) _
        have BX := Lib.hid (show WBox wa pf f by rw [← hwa, ← hpf]; exact WBox.new wr f)
        have Ba := Lib.hid (hb.trans (hal.mono hb.size))
        have HPF := Lib.hid hpf
        have HWA := Lib.hid hwa
        have C := Lib.hid (wantCheck_any f wa (by have := sz.1; omega) (by have := sz.2.1; omega) (HE.out.ext Ba.out))
        clear hal hpf hwa hb
        go_upto_region 6 with fail
        rw [HWA.out, HPF.out]
        clear q0 q1 q2 q3 q4
        obtain ⟨c0, c1, c2, c3, c4⟩ := BX.out.cells
        go_wp2_with fail
        refine C.out.mono ?_
        clear C
        rintro e w1 ⟨rfl, hb1⟩
        have B1 := Lib.hid (Ba.out.trans (hb1.mono Ba.out.size))
        have BX1 := Lib.hid (BX.out.ext hb1)
        clear hb1 c0 c1 c2 c3 c4 BX
        obtain ⟨c0, _, _, _, _⟩ := BX1.out.cells
        cases hw : wantE f with
        | succ c =>
          have hle : c < 13 := by have := wantE_le f; omega
          have HY := Lib.hid (HAT.out c (HW.out c hw))
          rw [show errV E (c + 1) = sentV E c from rfl]
          clear HAT HNX HW HFR HFI hw HF
          go_wp2_with fail
          go_quiet (fail)
          obtain ⟨wq, hwq⟩ : ∃ wq, w1.drewN nq = wq := ⟨_, rfl⟩
          have Bq : Hid (Below w.heap.size w wq) := by show Below _ _ _; rw [← hwq]; exact B1.out.trans ((below_drewN _ w1 nq).mono B1.out.size)
          rw [hwq]
          clear hwq c0 B1
          go_wp2_with fail
          go_ret
          refine ⟨⟨_, rfl, ?_⟩, Bq.out.alloc Bq.out.size _⟩
          show IsErr _ _ _ _
          rw [HY.out]
          exact IsErr.fault E _ (c) (by omega) _ _ (by rw [World.cell?_alloc_at _ _ _ _ rfl]; rfl) (by rw [World.cell?_alloc_at _ _ _ _ rfl]; rfl)
        | zero =>
          rw [show errV E 0 = .nilIface from rfl]
          by_cases hk0 : k = 0
          · have HF2 : Hid (lockGo none 0 l = lockGo (prevW l (k + 1)) (k + 1) (l.drop (k + 1))) := HNX.out (HFI.out hk0 hw)
            have hd0 : decide (0 < k) = false := decide_eq_false (by omega)
            have hkz : k ≤ 0 := by omega
            clear HAT HNX HW HFR HFI hw HF hk0 HPV
            go_wp2_with fail
            go_quiet (fail)
            go_wp2_with fail
            go_roundw
            case rel => exact ⟨k + 1, by omega, by go_num, HF2, B1.out.trans ((below_drewN _ w1 nq).mono B1.out.size)⟩
            case measure => simp [intOf]; omega
          · have h0 : 0 < k := by omega
            have hE := HFR.out h0 hw
            have p0 := HPV.out h0 w1 B1.out
            obtain ⟨g, hg⟩ : ∃ g, l[k - 1]'(by omega) = g := ⟨_, rfl⟩
            rw [hg] at hE p0
            have hwr : IntKind.i64.wrap ((k : Int) - 1) = ((k - 1 : Nat) : Int) := by rw [IntWalk.i64_in _ (by omega)]; omega
            have hd0 : decide (0 < k) = true := decide_eq_true (by omega)
            have hkl : ((k - 1 : Nat) : Int) < (l.length : Int) := by omega
            obtain ⟨lq, hlq⟩ : ∃ lq, (Op.bytesLess f.name.toList g.name.toList || f.name.toList == g.name.toList) = lq := ⟨_, rfl⟩
            have HEQ : Hid (lockE (prevW l k) f = if lq = true then 9 else 0) := by show _ = _; rw [hE, leq_names, hlq]
            have HLQ := Lib.hid hlq
            clear hE hg hlq hw HW HFR HFI HPV
            go_wp2_with fail
            go_quiet (fail)
            clear hwr hkl hd0 p0
            rw [HLQ.out]
            obtain ⟨wq, hwq⟩ : ∃ wq, w1.drewN nq = wq := ⟨_, rfl⟩
            have Bq : Hid (Below w.heap.size w wq) := by show Below _ _ _; rw [← hwq]; exact B1.out.trans ((below_drewN _ w1 nq).mono B1.out.size)
            rw [hwq]
            clear hwq c0 B1
            cases lq with
            | true =>
              have HY := Lib.hid (HAT.out 8 (by rw [HEQ.out]; rfl))
              have e1 : wq.cell? ⟨1, 0, none⟩ = some (sentV E 8) := (HE.out.ext Bq.out).1.err 8 (by decide)
              clear HAT HNX HEQ HF
              go_wp2_with fail
              go_ret
              refine ⟨⟨_, rfl, ?_⟩, Bq.out.alloc Bq.out.size _⟩
              show IsErr _ _ _ _
              rw [HY.out]
              exact IsErr.fault E _ (8) (by omega) _ _ (by rw [World.cell?_alloc_at _ _ _ _ rfl]; rfl) (by rw [World.cell?_alloc_at _ _ _ _ rfl]; rfl)
            | false =>
              have HF2 : Hid (lockGo none 0 l = lockGo (prevW l (k + 1)) (k + 1) (l.drop (k + 1))) := HNX.out (by rw [HEQ.out]; rfl)
              clear HAT HNX HEQ HF
              go_wp2_with fail
              go_roundw
              case rel => exact ⟨k + 1, by omega, by go_num, HF2, Bq.out⟩
              case measure => simp [intOf]; omega
      · obtain rfl : k = l.length := by omega
        have HY := Lib.hid (lockEr_end h20 HF.out)
        clear HF
        go_wp2_with fail
        go_ret
        exact ⟨⟨_, rfl, by show IsErr _ _ _ _; rw [HY.out]; exact .inl ⟨rfl, rfl⟩⟩, hb⟩
  · have HY := Lib.hid (lockEr_many (l := l) (by omega))
    have c1 : w.cell? ⟨0, 0, none⟩ = some (sentV E 7) := HE.out.1.err 7 (by decide)
    go_wp2_with fail
    go_ret
    exact ⟨⟨_, rfl, by show IsErr _ _ _ _; rw [HY.out]; exact IsErr.base E _ 7 (by decide)⟩, Below.refl _ _⟩
end Go.Proofs.YtgchgdkpipanjaaGreatDoor

namespace Go.Proofs.YtgchgdkpipanjaaGreatDoor
open Go Go.RowKit

theorem wantTx_len (x : WantB) : (wantTx x).length ≤ x.name.size + x.url.size + x.kind.size + 30 := by
  by_cases h : wantE x = 0
  · obtain ⟨n1, n2, n3, n4⟩ := want_nums h
    have d1 : (Lib.decDigits x.strip.toNat).length ≤ 10 := decDigits_len_le 9 _ (by omega)
    have d2 : (Lib.decDigits x.sum.toNat).length ≤ 10 := decDigits_len_le 9 _ (by omega)
    rw [wantTx_is h]
    simp only [List.length_append, List.length_cons, bl_length]
    omega
  · unfold wantTx
    rw [if_pos h]
    simp
/-- What lock.Text hands back. -/
def LTextPost (E : Nat → Addr) (l : List WantB) (w : World) (e : Ending) (w' : World) : Prop :=
  (∃ (t : ByteArray) (ev : Value), e = .returned (.tuple #[.string t, ev]) ∧ Hid (bl t = if (lockEr l).code = 0 then lockTx l else []) ∧ Hid (IsErr E w' ev (lockEr l))) ∧ Below w.heap.size w w'

set_option maxHeartbeats 4000000 in
set_option maxRecDepth 100000 in
theorem lockText_any {E : Nat → Addr} (v : Value) (l : List WantB) (w : World) (hv : WRow w v l) (hl : l.length ≤ 100000) (hS : ∀ f ∈ l, SmallW f) (hE : KEnv E w) :
    Calls Tryz.prog 10 #[v] w (LTextPost E l w) := by
  have HV := Lib.hid hv
  have C := Lib.hid (lockCheck_any v l w hv hl hS hE.1)
  obtain ⟨ao, cap, rfl⟩ := hv.len
  have HSM := Lib.hid hS
  have HE := Lib.hid hE
  clear hS hE hv
  go_enter Tryz.func10, Tryz.ntmps10
  go_wp2_with fail
  refine C.out.mono ?_
  clear C
  rintro e w1 ⟨⟨ev, rfl, HI⟩, hb1⟩
  by_cases hz : (lockEr l).code = 0
  rotate_left
  · obtain ⟨t, x, rfl⟩ := HI.out.some_inv hz
    have HT : Hid (bl ⟨#[]⟩ = if (lockEr l).code = 0 then lockTx l else []) := by show _ = _; rw [if_neg hz]; rfl
    clear hz
    go_wp2_with fail
    go_ret2
    exact ⟨⟨_, _, rfl, HT, HI⟩, hb1⟩
  · obtain rfl : ev = .nilIface := HI.out.nil0 hz
    have hok := (lockOk_iff l).1 hz
    have hl20 := hok.few
    have HQ : Hid (lockTx l = if (lockEr l).code = 0 then lockTx l else []) := by show _ = _; rw [if_pos hz]
    have HER := Lib.hid hok.er
    have B1 := Lib.hid hb1
    clear hz HI hok hb1
    go_wp2_with fail
    go_loopw [5, 15] (fun sv i wr => ∃ (k : Nat) (s : ByteArray), k ≤ l.length ∧ i = .int .i64 k ∧ sv = .string s ∧ Hid (bl s = lockTx (l.take k)) ∧ s.size ≤ 170000 * k ∧ Below w.heap.size w wr) (fun _ i _ => l.length - (intOf i).toNat)
    case atStart => exact ⟨0, ⟨#[]⟩, Nat.zero_le _, rfl, rfl, rfl, Nat.zero_le _, B1.out⟩
    case round =>
      obtain ⟨k, s, hk, rfl, rfl, HAC, hlen, hb⟩ := hrel
      by_cases hlt : k < l.length
      · obtain ⟨b, off, rfl, hcell⟩ := HV.out.at hlt
        obtain ⟨q0, q1, q2, q3, q4⟩ := hcell wr hb
        have sz := HSM.out l[k] (List.getElem_mem hlt)
        have HTK : Hid (bl s ++ (wantTx l[k] ++ [10]) = lockTx (l.take (k + 1))) := by show _ = _; rw [lockTx_take hlt, HAC.out]
        have htl := wantTx_len l[k]
        clear hcell HAC
        obtain ⟨f, hf⟩ : ∃ f, l[k] = f := ⟨_, rfl⟩
        rw [hf] at q0 q1 q2 q3 q4 sz HTK htl
        clear hf
        obtain ⟨pf, hpf⟩ : ∃ pf, wr.heap.size = pf := ⟨_, rfl⟩
        obtain ⟨wa, hwa⟩ : ∃ wa, wr.alloc (.cells #[.string f.name, .string f.url, .string f.kind, .int .i64 f.strip, .int .i64 f.sum] 41) = wa := ⟨_, rfl⟩
        have hal : Below wr.heap.size wr wa := by rw [← hwa]; exact (Below.refl _ _).alloc (Nat.le_refl _) _
        have BX := Lib.hid (show WBox wa pf f by rw [← hwa, ← hpf]; exact WBox.new wr f)
        have Ba := Lib.hid (hb.trans (hal.mono hb.size))
        have HPF := Lib.hid hpf
        have HWA := Lib.hid hwa
        have sz0 := sz.1
        have sz1 := sz.2.1
        have sz2 := sz.2.2
        have C := Lib.hid (wantText_any f wa (by omega) (by omega) (by omega) (HE.out.ext Ba.out))
        have hss : s.size ≤ 3400000 := by omega
        clear hal hpf hwa hb sz
        go_upto_region 8 with fail
        rw [HWA.out, HPF.out]
        clear q0 q1 q2 q3 q4
        obtain ⟨c0, c1, c2, c3, c4⟩ := BX.out.cells
        go_wp2_with fail
        refine C.out.mono ?_
        clear C
        rintro e w2 ⟨⟨t, rfl, HT⟩, hb2⟩
        have B2 := Lib.hid (Ba.out.trans (hb2.mono Ba.out.size))
        have ht : t.size ≤ 160030 := by rw [← bl_length, HT.out]; omega
        have n1 : ¬ 9223372036854775807 < t.size + 1 := by omega
        have n2 : ¬ 9223372036854775807 < s.size + (t.size + 1) := by omega
        have HX : Hid (bl (s ++ (t ++ ⟨#[10]⟩)) = lockTx (l.take (k + 1))) := by
          show _ = _
          rw [← HTK.out, bl_append, bl_append, HT.out]; rfl
        have HLN : Hid ((s ++ (t ++ ⟨#[10]⟩)).size ≤ 170000 * (k + 1)) := by
          show _ ≤ _
          have h1 : (bl (s ++ (t ++ ⟨#[10]⟩))).length = s.size + (t.size + 1) := by
            rw [bl_append, bl_append, List.length_append, List.length_append, bl_length, bl_length]; rfl
          rw [bl_length] at h1; omega
        clear hb2 c0 c1 c2 c3 c4 BX Ba HTK HT htl
        go_wp2_with fail
        go_roundw
        case rel => exact ⟨k + 1, _, by omega, by go_num, rfl, HX, HLN.out, B2.out⟩
        case measure => simp [intOf]; omega
      · obtain rfl : k = l.length := by omega
        have HT : Hid (bl s = if (lockEr l).code = 0 then lockTx l else []) := by show _ = _; rw [← HQ.out, HAC.out, List.take_length]
        clear HAC
        go_wp2_with fail
        go_ret2
        exact ⟨⟨s, _, rfl, HT, by show IsErr _ _ _ _; rw [HER.out]; exact .inl ⟨rfl, rfl⟩⟩, hb⟩

set_option maxRecDepth 100000 in
theorem lockFind_any (v : Value) (l : List WantB) (p : ByteArray) (w : World) (hv : WRow w v l) (hl : l.length ≤ 100000) :
    Calls Tryz.prog 16 #[v, .string p] w (WantIxPost l p w) := by
  obtain ⟨tb, htb⟩ : ∃ tb, w.heap.size = tb := ⟨_, rfl⟩
  obtain ⟨w0, hw0⟩ : ∃ w0, w.alloc (.cells #[.string p] 9) = w0 := ⟨_, rfl⟩
  have hB : Below w.heap.size w w0 := by rw [← hw0]; exact (Below.refl _ w).alloc (Nat.le_refl _) _
  have hT : w0.heap[tb]? = some (.cells #[.string p] 9 (0, 0)) := by rw [← hw0, ← htb]; exact heap_alloc_new w _
  have C := Lib.hid (indexName_any v l p tb w0 (hv.ext hB) hl (by rw [Lib.cell_of_heap hT]; rfl))
  have HA := Lib.hid hB
  have HW0 := Lib.hid hw0
  have HTB := Lib.hid htb
  obtain ⟨ao, cap, rfl⟩ := hv.len
  clear hB hv hT hw0 htb
  go_enter Tryz.func16, Tryz.ntmps16
  go_wp2_with fail
  rw [HW0.out, HTB.out]
  refine C.out.mono ?_
  clear C
  rintro e w1 ⟨rfl, hb1⟩
  go_wp2_with fail
  go_ret
  exact ⟨rfl, HA.out.trans (hb1.mono HA.out.size)⟩
end Go.Proofs.YtgchgdkpipanjaaGreatDoor

namespace Go.Proofs.YtgchgdkpipanjaaGreatDoor
open Go Go.RowKit

theorem found_iff {l : List WantB} {w : WantB} (hl : l.Pairwise wLt) : decide (((l.drop (placeW l w)).head?.map (fun g => decide (g.name = w.name))) = some true) = (findW w.name l).isSome := by
  obtain ⟨A, D, e, _, hD, hA1, hD1⟩ := place_parts (w := w) hl
  rw [hD, Bool.eq_iff_iff, decide_eq_true_iff, findW_isSome]
  constructor
  · intro h
    cases D with
    | nil => simp at h
    | cons d D =>
      have h2 : d.name = w.name := by simpa using h
      exact ⟨d, by rw [e]; simp, h2⟩
  · rintro ⟨x, hx, ex⟩
    rw [e] at hx
    rcases List.mem_append.1 hx with hx | hx
    · exact absurd ex (hA1 x hx).ne
    · cases D with
      | nil => cases hx
      | cons d D =>
        rcases List.mem_cons.1 hx with rfl | hx2
        · simp [ex]
        · have hp : (A ++ d :: D).Pairwise wLt := by rw [← e]; exact hl
          have h3 : wLt d x := (List.pairwise_cons.1 (List.pairwise_append.1 hp).2.1).1 x hx2
          exact absurd ((wLt.congr rfl ex).1 h3) (hD1 d (List.mem_cons_self ..))
theorem set5 {α : Type} (L : List α) (o : Nat) (x y z u v : α) (h : o + 5 ≤ L.length) : ((((L.set o x).set (o + 1) y).set (o + 2) z).set (o + 3) u).set (o + 4) v = splice L o [x, y, z, u, v] := by
  apply List.ext_getElem?
  intro j
  unfold splice
  simp only [List.getElem?_set, List.getElem?_append, List.length_take, List.length_cons, List.length_nil, List.getElem?_take, List.getElem?_drop, List.length_set]
  rw [Nat.min_eq_left (show o ≤ L.length by omega)]
  by_cases c1 : j < o
  · rw [if_neg (by omega), if_neg (by omega), if_neg (by omega), if_neg (by omega), if_neg (by omega), if_pos c1, if_pos c1]
  · by_cases c2 : j < o + 5
    · have : j = o ∨ j = o + 1 ∨ j = o + 2 ∨ j = o + 3 ∨ j = o + 4 := by omega
      have h0 : o < L.length := by omega
      have h1 : o + 1 < L.length := by omega
      have h2 : o + 2 < L.length := by omega
      have h3 : o + 3 < L.length := by omega
      have h4 : o + 4 < L.length := by omega
      rcases this with rfl | rfl | rfl | rfl | rfl
      · simp [h0]
      · simp [h1]; omega
      · simp [h2]; omega
      · simp [h3]; omega
      · simp [h4]; omega
    · rw [if_neg (by omega), if_neg (by omega), if_neg (by omega), if_neg (by omega), if_neg (by omega), if_neg c1, if_neg (by omega)]
      congr 1; omega
/-- A want is stored at a place of a row. -/
def rowPut (w : World) (g o : Nat) (f : WantB) : World := ((((w.setCell ⟨g, o, none⟩ (.string f.name)).setCell ⟨g, o + 1, none⟩ (.string f.url)).setCell ⟨g, o + 2, none⟩ (.string f.kind)).setCell ⟨g, o + 3, none⟩ (.int .i64 f.strip)).setCell ⟨g, o + 4, none⟩ (.int .i64 f.sum)
theorem wsplice_take {α : Type} (L cs : List α) (o n : Nat) (h : o + cs.length ≤ n) (hn : n ≤ L.length) : (splice L o cs).take n = splice (L.take n) o cs := by
  unfold splice
  rw [List.take_append, List.take_append, List.take_take, List.take_take, List.length_take, List.drop_take, Nat.min_eq_right (show o ≤ n by omega), Nat.min_eq_left (show o ≤ n by omega), Nat.min_eq_left (show o ≤ L.length by omega), List.take_of_length_le (l := cs) (by omega), show n - o - cs.length = n - (o + cs.length) by omega]
/-- One want written over. -/
theorem WOwn.over {w : World} {base g cap k : Nat} {cur : Array Value} {l : List WantB} (f : WantB) (hb : base ≤ g) (hg : w.heap[g]? = some (.cells cur 41 (0, 0))) (hn : l.length ≤ cap) (hc : cap ≤ maxLen) (hs : cur.size = cap * 5) (ht : cur.toList.take (l.length * 5) = l.flatMap encW) (hk : k < l.length) :
    WOwn (rowPut w g (k * 5) f) base (.slice (some ⟨g, 0, none⟩) l.length cap) (l.take k ++ f :: l.drop (k + 1)) ∧ Below base w (rowPut w g (k * 5) f) := by
  have e1 := setCell_eq_setRow w g (k * 5) cur 41 (0, 0) (.string f.name) hg
  have g1 := setRow_block (c' := cur.setIfInBounds (k * 5) (.string f.name)) hg
  have e2 := setCell_eq_setRow _ g (k * 5 + 1) _ 41 (0, 0) (.string f.url) g1
  have g2 := setRow_block (c' := (cur.setIfInBounds (k * 5) (.string f.name)).setIfInBounds (k * 5 + 1) (.string f.url)) g1
  have e3 := setCell_eq_setRow _ g (k * 5 + 2) _ 41 (0, 0) (.string f.kind) g2
  have g3 := setRow_block (c' := ((cur.setIfInBounds (k * 5) (.string f.name)).setIfInBounds (k * 5 + 1) (.string f.url)).setIfInBounds (k * 5 + 2) (.string f.kind)) g2
  have e4 := setCell_eq_setRow _ g (k * 5 + 3) _ 41 (0, 0) (.int .i64 f.strip) g3
  have g4 := setRow_block (c' := (((cur.setIfInBounds (k * 5) (.string f.name)).setIfInBounds (k * 5 + 1) (.string f.url)).setIfInBounds (k * 5 + 2) (.string f.kind)).setIfInBounds (k * 5 + 3) (.int .i64 f.strip)) g3
  have e5 := setCell_eq_setRow _ g (k * 5 + 4) _ 41 (0, 0) (.int .i64 f.sum) g4
  have g5 := setRow_block (c' := ((((cur.setIfInBounds (k * 5) (.string f.name)).setIfInBounds (k * 5 + 1) (.string f.url)).setIfInBounds (k * 5 + 2) (.string f.kind)).setIfInBounds (k * 5 + 3) (.int .i64 f.strip)).setIfInBounds (k * 5 + 4) (.int .i64 f.sum)) g4
  unfold rowPut
  rw [e1, e2, e3, e4, e5]
  refine ⟨?_, below_setRow (below_setRow (below_setRow (below_setRow (below_setRow (Below.refl _ _) hb _) hb _) hb _) hb _) hb _⟩
  have hlen : (l.take k ++ f :: l.drop (k + 1)).length = l.length := by simp; omega
  have hL : cur.toList.length = cap * 5 := by rw [Array.length_toList, hs]
  have hM : (((((cur.setIfInBounds (k * 5) (.string f.name)).setIfInBounds (k * 5 + 1) (.string f.url)).setIfInBounds (k * 5 + 2) (.string f.kind)).setIfInBounds (k * 5 + 3) (.int .i64 f.strip)).setIfInBounds (k * 5 + 4) (.int .i64 f.sum)).toList.take (l.length * 5) = (l.take k ++ f :: l.drop (k + 1)).flatMap encW := by
    rw [Array.toList_setIfInBounds, Array.toList_setIfInBounds, Array.toList_setIfInBounds, Array.toList_setIfInBounds, Array.toList_setIfInBounds, set5 _ _ _ _ _ _ _ (by omega), wsplice_take _ _ _ _ (by show k * 5 + 5 ≤ _; omega) (by omega), ht]
    unfold splice
    rw [List.flatMap_append, List.flatMap_cons, ← wenc_take, ← wenc_drop, show k * 5 + [Value.string f.name, .string f.url, .string f.kind, .int .i64 f.strip, .int .i64 f.sum].length = (k + 1) * 5 by show _ + 5 = _; omega]
  show World.ownsRow _ _ _ _ _ _ _
  rw [hlen]
  exact ⟨by rw [wenc_len, hlen], .inr ⟨g, cap, _, rfl, hb, g5, hn, hc, by simp [hs], hM⟩⟩
end Go.Proofs.YtgchgdkpipanjaaGreatDoor

namespace Go.Proofs.YtgchgdkpipanjaaGreatDoor
open Go Go.RowKit Go.Lib Go.Sort

set_option maxRecDepth 100000 in
theorem set1_grow (x y : WantB) (w : World) : Calls Tryz.prog 56 (#[.agg (encW x).toArray, .agg (encW y).toArray] ++ #[]) w fun e w' => e = .returned (.int .i64 (cfW x y)) ∧ ∃ q os', w' = grow (w.drewN q) os' := by
  show Calls Tryz.prog 56 #[.agg (encW x).toArray, .agg (encW y).toArray] w _
  go_enter Tryz.func56, Tryz.ntmps56
  go_wp2_with fail
  refine (Tryz.strings_Compare x.name y.name _).mono ?_
  rintro e w' ⟨rfl, rfl⟩
  go_wp2_with fail
  go_ret
  exact ⟨rfl, 0, _, by rw [alloc_eq_grow, alloc_eq_grow, grow_grow]; rfl⟩
/-- slices.BinarySearchFunc as lock.Set calls it. -/
theorem wsearch_any (f : WantB) (v : Value) (l : List WantB) (w : World) (hl : l.length ≤ 10000) (hv : WRow w v l) (hA : l.Pairwise wLt) :
    Calls Tryz.prog 55 #[v, .agg (encW f).toArray, .func (.func 56) #[] #[]] w (WSearchPost l f w) :=
  wsearch_gen f 56 (enters_of Tryz.func56 (by kernel_rfl) rfl) (fun x w => set1_grow x f w) v l w hl hv hA
end Go.Proofs.YtgchgdkpipanjaaGreatDoor

namespace Go.Proofs.YtgchgdkpipanjaaGreatDoor
open Go Go.RowKit

/-- What lock.Set and lock.Drop hand back. -/
def LSetPost (E : Nat → Addr) (r : Er × List WantB) (w : World) (e : Ending) (w' : World) : Prop :=
  (∃ v ev, e = .returned (.tuple #[v, ev]) ∧ Hid (IsErr E w' ev r.1) ∧ Hid (WOwn w' w.heap.size v r.2)) ∧ Below w.heap.size w w'
theorem LSetPost.none {E : Nat → Addr} {er : Er} {w w' : World} {ev : Value} (h : Hid (IsErr E w' ev er)) (hb : Below w.heap.size w w') : LSetPost E (er, []) w (.returned (.tuple #[.slice none 0 0, ev])) w' :=
  ⟨⟨_, _, rfl, h, WOwn.nil _ _⟩, hb⟩
theorem IsErr.sentW {E : Nat → Addr} {w : World} {k : Nat} (hk : k < 13) : IsErr E w (sentV E k) ⟨k + 1, none⟩ := .inr (.inl ⟨k, hk, rfl, rfl⟩)
theorem dropLk_from {l : List WantB} (n : ByteArray) (h : (lockEr l).code = 0) : dropLk l n = match findW n l with
    | none => (⟨6, none⟩, [])
    | some k => (⟨0, none⟩, l.eraseIdx k) := by unfold dropLk; rw [if_neg (by rw [h]; decide)]; cases findW n l <;> rfl
theorem setLk_from {l : List WantB} {x : WantB} (h : (lockEr l).code = 0) (h2 : wantE x = 0) : setLk l x = if (findW x.name l).isSome = true then (⟨0, none⟩, l.take (placeW l x) ++ x :: l.drop (placeW l x + 1))
  else if 20 ≤ l.length then (⟨8, none⟩, []) else (⟨0, none⟩, l.take (placeW l x) ++ x :: l.drop (placeW l x)) := by unfold setLk; rw [if_neg (by rw [h]; decide), if_neg (by rw [h2]; decide)]

set_option maxHeartbeats 2000000 in
set_option maxRecDepth 100000 in
theorem lockDrop_any {E : Nat → Addr} (v : Value) (l : List WantB) (p : ByteArray) (w : World) (hv : WArg w v l) (hl : l.length ≤ 10000) (hS : ∀ f ∈ l, SmallW f) (hE : FEnv E w) :
    Calls Tryz.prog 15 #[v, .string p] w (LSetPost E (dropLk l p) w) := by
  have HV := Lib.hid hv
  have HE := Lib.hid hE
  have C := Lib.hid (lockCheck_any v l w hv.1 (by omega) hS hE)
  obtain ⟨ao, cap, rfl⟩ := hv.1.len
  clear hE hS hv
  go_enter Tryz.func15, Tryz.ntmps15
  go_wp2_with fail
  refine C.out.mono ?_
  clear C
  rintro e w1 ⟨⟨ev, rfl, HI⟩, hb1⟩
  by_cases hz : (lockEr l).code = 0
  rotate_left
  · obtain ⟨t, x, rfl⟩ := HI.out.some_inv hz
    have HY : Hid (dropLk l p = (lockEr l, [])) := by show _ = _; unfold dropLk; rw [if_pos hz]
    clear hz
    go_wp2_with fail
    go_ret2
    rw [HY.out]
    exact LSetPost.none HI hb1
  · obtain rfl : ev = .nilIface := HI.out.nil0 hz
    have HD := Lib.hid (dropLk_from p hz)
    have C := Lib.hid (lockFind_any _ l p w1 (HV.out.1.ext hb1) (by omega))
    have B1 := Lib.hid hb1
    clear hz HI hb1
    go_wp2_with fail
    refine C.out.mono ?_
    clear C
    rintro e w2 ⟨rfl, hb2⟩
    have B2 := Lib.hid (B1.out.trans (hb2.mono B1.out.size))
    clear hb2
    cases hf : findW p l with
    | none =>
      have HY : Hid (dropLk l p = (⟨6, none⟩, [])) := by show _ = _; rw [HD.out, hf]
      rw [show findI none = -1 from rfl]
      have ex : w2.cell? ⟨3, 0, none⟩ = some (sentV E 5) := (HE.out.ext B2.out).1.err 5 (by decide)
      clear hf HD
      go_wp2_with fail
      go_quiet (fail)
      go_wp2_with fail
      go_ret2
      rw [HY.out]
      exact LSetPost.none (IsErr.sentW (by decide)) (B2.out.trans ((below_drewN _ _ _).mono B2.out.size))
    | some k =>
      have hk := (findW_some hf).1
      have HY : Hid (dropLk l p = (⟨0, none⟩, l.take k ++ l.drop (k + 1))) := by show _ = _; rw [HD.out, hf]; simp only; rw [List.eraseIdx_eq_take_drop_succ]
      rw [show findI (some k) = (k : Int) from rfl]
      have C := Lib.hid (cloneWants_any _ l w2 (by omega) (HV.out.ext B2.out))
      have hk0 : ¬ ((k : Int) < 0) := by omega
      clear hf HD
      go_wp2_with fail
      refine C.out.mono ?_
      clear C
      rintro e w3 ⟨⟨ov, rfl, HO⟩, hb3⟩
      have B3 := Lib.hid (B2.out.trans (hb3.mono B2.out.size))
      have HO3 := Lib.hid (WOwn.low HO.out B2.out.size)
      have C := Lib.hid (deleteWant_any l w.heap.size k ov w3 hk (by omega) HO3.out)
      clear HO hb3
      go_wp2_with fail
      refine C.out.mono ?_
      clear C
      rintro e w4 ⟨⟨o4, rfl, HO4⟩, hb4⟩
      go_wp2_with fail
      go_ret2
      rw [HY.out]
      exact ⟨⟨_, _, rfl, .inl ⟨rfl, rfl⟩, HO4⟩, B3.out.trans hb4⟩

set_option maxHeartbeats 4000000 in
set_option maxRecDepth 100000 in
theorem lockSet_any {E : Nat → Addr} (v : Value) (l : List WantB) (x : WantB) (w : World) (hv : WArg w v l) (hl : l.length ≤ 10000) (hS : ∀ f ∈ l, SmallW f) (hx : SmallW x) (hE : FEnv E w) :
    Calls Tryz.prog 17 #[v, .agg #[.string x.name, .string x.url, .string x.kind, .int .i64 x.strip, .int .i64 x.sum]] w (LSetPost E (setLk l x) w) := by
  obtain ⟨px, hpx⟩ : ∃ px, w.heap.size = px := ⟨_, rfl⟩
  obtain ⟨wx, hwx⟩ : ∃ wx, w.alloc (.cells #[.string x.name, .string x.url, .string x.kind, .int .i64 x.strip, .int .i64 x.sum] 41) = wx := ⟨_, rfl⟩
  have hbx : Below w.heap.size w wx := by rw [← hwx]; exact (Below.refl _ _).alloc (Nat.le_refl _) _
  have BX := Lib.hid (show WBox wx px x by rw [← hwx, ← hpx]; exact WBox.new w x)
  have hpw : w.heap.size ≤ px := Nat.le_of_eq hpx
  have HB := Lib.hid hbx
  have HE := Lib.hid hE
  have HV := Lib.hid hv
  have HWX := Lib.hid hwx
  have HPX := Lib.hid hpx
  obtain ⟨ao, cap, rfl⟩ := hv.1.len
  have C := Lib.hid (lockCheck_any _ l wx (hv.1.ext hbx) (by omega) hS (hE.ext hbx))
  have hx1 := hx.1
  have hx2 := hx.2.1
  clear hpx hwx hbx hE hv hS hx
  go_enter Tryz.func17, Tryz.ntmps17
  go_wp2_with fail
  rw [HWX.out, HPX.out]
  refine C.out.mono ?_
  clear C
  rintro e w1 ⟨⟨ev, rfl, HI⟩, hb1⟩
  have B1 := Lib.hid (HB.out.trans (hb1.mono HB.out.size))
  have BX1 := Lib.hid (BX.out.ext hb1)
  clear hb1 BX
  by_cases hz : (lockEr l).code = 0
  rotate_left
  · obtain ⟨t, y, rfl⟩ := HI.out.some_inv hz
    have HY : Hid (setLk l x = (lockEr l, [])) := by show _ = _; unfold setLk; rw [if_pos hz]
    clear hz
    go_wp2_with fail
    go_ret2
    rw [HY.out]
    exact LSetPost.none HI B1.out
  obtain rfl : ev = .nilIface := HI.out.nil0 hz
  have HZ := Lib.hid hz
  clear hz HI
  obtain ⟨c0, c1, c2, c3, c4⟩ := BX1.out.cells
  have C := Lib.hid (wantCheck_any x w1 (by omega) (by omega) (HE.out.ext B1.out))
  go_wp2_with fail
  refine C.out.mono ?_
  clear C
  rintro e w2 ⟨rfl, hb2⟩
  have B2 := Lib.hid (B1.out.trans (hb2.mono B1.out.size))
  have BX2 := Lib.hid (BX1.out.ext hb2)
  clear hb2 c0 c1 c2 c3 c4 BX1
  cases hw : wantE x with
  | succ c =>
    have hle : c < 13 := by have := wantE_le x; omega
    have HY : Hid (setLk l x = (⟨c + 1, none⟩, [])) := by show _ = _; unfold setLk; rw [if_neg (by rw [HZ.out]; decide), if_pos (by omega), hw]
    rw [show errV E (c + 1) = sentV E c from rfl]
    clear hw
    go_wp2_with fail
    go_ret2
    rw [HY.out]
    exact LSetPost.none (IsErr.sentW hle) B2.out
  | zero =>
  have HD := Lib.hid (setLk_from HZ.out hw)
  have hok := Lib.hid ((lockOk_iff l).1 HZ.out)
  have hl20 := hok.out.few
  rw [show errV E 0 = .nilIface from rfl]
  clear hw
  have C := Lib.hid (cloneWants_any _ l w2 (by omega) (HV.out.ext B2.out))
  go_wp2_with fail
  refine C.out.mono ?_
  clear C
  rintro e w3 ⟨⟨ov, rfl, HO⟩, hb3⟩
  have B3 := Lib.hid (B2.out.trans (hb3.mono B2.out.size))
  have BX3 := Lib.hid (BX2.out.ext hb3)
  have hpx3 : px < w2.heap.size := BX2.out.lt
  clear hb3 BX2
  obtain ⟨c0, c1, c2, c3, c4⟩ := BX3.out.cells
  have C := Lib.hid (wsearch_any x (.slice ao l.length cap) l w3 (by omega) (HV.out.1.ext B3.out) hok.out.strict)
  go_wp2_with fail
  refine C.out.mono ?_
  clear C
  rintro e w4 ⟨rfl, hb4⟩
  have HF := found_iff (w := x) hok.out.strict
  have hpl : placeW l x ≤ l.length := (List.takeWhile_sublist _).length_le
  rw [HF]
  have B4 := Lib.hid (B3.out.trans (hb4.mono B3.out.size))
  have BX4 := Lib.hid (BX3.out.ext hb4)
  have HO4 := Lib.hid (HO.out.ext hb4)
  clear hb4 c0 c1 c2 c3 c4 BX3 HF HO
  obtain ⟨k, hk⟩ : ∃ k, placeW l x = k := ⟨_, rfl⟩
  rw [hk] at HD hpl ⊢
  obtain ⟨c0, c1, c2, c3, c4⟩ := BX4.out.cells
  obtain ⟨oo, oc, rfl⟩ := HO4.out.shape
  have HFI := Lib.hid (found_iff (w := x) hok.out.strict)
  rw [hk] at HFI
  have HOw := Lib.hid (WOwn.low HO4.out B2.out.size)
  cases hf : (findW x.name l).isSome with
  | true =>
    have HY : Hid (setLk l x = (⟨0, none⟩, l.take k ++ x :: l.drop (k + 1))) := by show _ = _; rw [HD.out, hf, if_pos rfl]
    have hkl : k < l.length := by
      have h0 := HFI.out
      rw [hf] at h0
      have h1 := of_decide_eq_true h0
      rcases Nat.lt_or_ge k l.length with h | h
      · exact h
      · rw [List.drop_eq_nil_of_le h] at h1; cases h1
    rcases HO4.out.2 with ⟨_, h0⟩ | ⟨g, cap2, cur, e0, hgb, hg, hn, hc, hs, ht⟩
    · omega
    obtain ⟨rfl, rfl⟩ : oo = some ⟨g, 0, none⟩ ∧ oc = cap2 := by injection e0 with a _ b; exact ⟨a, b⟩
    have r0 : (w4.cell? ⟨g, k * 5, none⟩).isSome = true := by rw [Lib.cell_of_heap hg, Array.getElem?_eq_getElem (by omega)]; rfl
    obtain ⟨u0, r0⟩ := Option.isSome_iff_exists.1 r0
    have r1 : (w4.cell? ⟨g, k * 5 + 1, none⟩).isSome = true := by rw [Lib.cell_of_heap hg, Array.getElem?_eq_getElem (by omega)]; rfl
    obtain ⟨u1, r1⟩ := Option.isSome_iff_exists.1 r1
    have r2 : (w4.cell? ⟨g, k * 5 + 2, none⟩).isSome = true := by rw [Lib.cell_of_heap hg, Array.getElem?_eq_getElem (by omega)]; rfl
    obtain ⟨u2, r2⟩ := Option.isSome_iff_exists.1 r2
    have r3 : (w4.cell? ⟨g, k * 5 + 3, none⟩).isSome = true := by rw [Lib.cell_of_heap hg, Array.getElem?_eq_getElem (by omega)]; rfl
    obtain ⟨u3, r3⟩ := Option.isSome_iff_exists.1 r3
    have r4 : (w4.cell? ⟨g, k * 5 + 4, none⟩).isSome = true := by rw [Lib.cell_of_heap hg, Array.getElem?_eq_getElem (by omega)]; rfl
    obtain ⟨u4, r4⟩ := Option.isSome_iff_exists.1 r4
    have z0 : w4.frozen? ⟨g, k * 5, none⟩ = false := Lib.frozen_of_heap hg _
    have z1 : w4.frozen? ⟨g, k * 5 + 1, none⟩ = false := Lib.frozen_of_heap hg _
    have z2 : w4.frozen? ⟨g, k * 5 + 2, none⟩ = false := Lib.frozen_of_heap hg _
    have z3 : w4.frozen? ⟨g, k * 5 + 3, none⟩ = false := Lib.frozen_of_heap hg _
    have z4 : w4.frozen? ⟨g, k * 5 + 4, none⟩ = false := Lib.frozen_of_heap hg _
    have OV := Lib.hid (WOwn.over x hgb hg hn hc hs ht hkl)
    have hlen : (l.take k ++ x :: l.drop (k + 1)).length = l.length := by simp; omega
    have HLE := Lib.hid hlen
    clear hg hs ht hn hc e0 hlen hf HD HFI
    go_wp2_with fail
    go_ret2
    have ov := OV.out
    unfold rowPut at ov
    rw [HY.out]
    refine ⟨⟨_, _, rfl, .inl ⟨rfl, rfl⟩, ?_⟩, B4.out.trans (ov.2.mono B2.out.size)⟩
    exact WOwn.low ov.1 B2.out.size
  | false =>
    have HY := HD.out
    rw [hf, if_neg (by simp)] at HY
    by_cases h20 : 20 ≤ l.length
    · rw [if_pos h20] at HY
      have HY2 := Lib.hid HY
      have cF : w4.cell? ⟨0, 0, none⟩ = some (sentV E 7) := (HE.out.ext B4.out).1.err 7 (by decide)
      clear HY HD hf
      go_wp2_with fail
      go_quiet (fail)
      go_wp2_with fail
      go_ret2
      rw [HY2.out]
      exact LSetPost.none (IsErr.sentW (by decide)) (B4.out.trans ((below_drewN _ _ _).mono B4.out.size))
    · rw [if_neg h20] at HY
      have HY2 := Lib.hid HY
      clear HY HD hf HFI
      have hba : Below w4.heap.size w4 (w4.alloc (.cells (encW x).toArray 41)) := (Below.refl _ _).alloc (Nat.le_refl _) _
      have hga := heap_alloc_new w4 (.cells (encW x).toArray 41)
      have hlt : ∀ q, (Value.slice oo l.length oc).ownBlock = some q → q < w4.heap.size := fun q hq => (World.ownsRow.lt HO4.out q hq).2
      have C := Lib.hid (insertWants_any x l w.heap.size w4.heap.size k (.slice oo l.length oc) (w4.alloc (.cells (encW x).toArray 41)) hpl (by omega) (HOw.out.ext hba) hga (fun e => by have := hlt _ e.symm; omega) (by simp; have := B4.out.size; omega))
      obtain ⟨wa, hwa⟩ : ∃ wa, w4.alloc (.cells (encW x).toArray 41) = wa := ⟨_, rfl⟩
      rw [hwa] at C hba
      have HWA := Lib.hid hwa
      have HBA := Lib.hid hba
      clear hga hlt hwa hba
      go_wp2_with fail
      rw [HWA.out]
      refine C.out.mono ?_
      rintro e w5 ⟨⟨o2, rfl, H2⟩, hb5⟩
      go_wp2_with fail
      go_ret2
      rw [HY2.out]
      exact ⟨⟨_, _, rfl, .inl ⟨rfl, rfl⟩, H2⟩, (B4.out.trans (HBA.out.mono B4.out.size)).trans hb5⟩
end Go.Proofs.YtgchgdkpipanjaaGreatDoor
