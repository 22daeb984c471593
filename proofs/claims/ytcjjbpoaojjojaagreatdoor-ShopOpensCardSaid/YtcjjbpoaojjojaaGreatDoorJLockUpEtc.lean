/- slices.Clone of wants: the contract. package lock: Check, Text by their contracts. package lock: Text and Find by their contracts. The reference's FindWant, SameWants, LockFault: contracts; the law's longWants. A row of files as the source of an append: own steps of the walk. What lock.Set needs: where a want goes, and a want written over. How lock.Set compares. package lock: Set and Drop by their contracts. -/
import Derived.Test.YtcjjbpoaojjojaaGreatDoorJWantRowsEtc
import Derived.Laws.NewBlocks
import Derived.Lib.SliceRun
import Derived.Test.YtcjjbpoaojjojaaGreatDoorJWantAll
import Derived.BigQuiet
import Derived.Test.YtcjjbpoaojjojaaGreatDoorJWantSlices
import Derived.Test.YtcjjbpoaojjojaaGreatDoorJRefWants
import Derived.Test.YtcjjbpoaojjojaaGreatDoorJToldEtc
import Derived.Test.YtcjjbpoaojjojaaGreatDoorJFilesEtc
namespace Go.Proofs.YtcjjbpoaojjojaaGreatDoor
open Go Go.RowKit Go.Lib

set_option maxHeartbeats 1000000 in
set_option maxRecDepth 100000 in
/-- slices.Clone of wants. -/
theorem cloneWants_any (v : Value) (l : List WantB) (w : World) (hl : l.length ≤ 10000) (hv : WArg w v l) :
    Calls Tryz.prog 75 #[v] w fun e w' => (∃ ov, e = .returned ov ∧ Hid (WOwn w' w.heap.size ov l)) ∧ Below w.heap.size w w' := by
  obtain ⟨i0, hi0, hz0, hz1, hz2⟩ := info_parts Tryz.infoWant
  obtain ⟨⟨ao, cap, rfl, h1, h2, H3⟩, hnil⟩ := hv
  have HM := Lib.hid H3
  have hq : ∀ (W : World) (a : Option Addr) (n c : Nat), (binOp .eql 79 (.slice a n c) (.slice none 0 0)).run Tryz.prog W = .ok (.bool a.isNone) W := fun W a n c => Go.Lib.run_eql_slice_nil W _ _ a n c 0 0 Tryz.underlying79
  clear H3
  cases ao with
  | none =>
    obtain ⟨h0, rfl⟩ := hnil _ _ rfl
    have hl0 : l = [] := List.eq_nil_of_length_eq_zero h0
    subst hl0
    clear HM hnil
    simp only [List.length_nil]
    go_enter Tryz.func75, Tryz.ntmps75
    go_wp2_with fail
    go_ret
    exact ⟨⟨_, rfl, WOwn.nil _ _⟩, Below.refl _ _⟩
  | some ad =>
    clear hnil
    go_enter Tryz.func75, Tryz.ntmps75
    go_wp2_with (at_builtin; refine wpList_append_own _ rfl _ _ 79 rfl w.heap.size 60 i0 (.agg #[.string ⟨#[]⟩, .string ⟨#[]⟩, .string ⟨#[]⟩, .int .i64 0, .int .i64 0]) 5 64 Tryz.underlying79 hi0 hz0 hz1 hz2 rfl (by decide) _ 0 _ rfl (World.ownsRow_made w #[] 0 (Nat.le_refl _) (Nat.zero_le _) rfl) ad l.length cap (l.flatMap encW) rfl (flatMap_len _ 5 (fun _ => rfl) l) ?c1 ?c2 ?c3 ?c4 ?c5 ?_)
    case c1 =>
      intro j u hj
      have hjl : j < (l.flatMap encW).length := (List.getElem?_eq_some_iff.1 hj).1
      rw [flatMap_len encW 5 (fun _ => rfl)] at hjl
      have hi : j / 5 < l.length := by omega
      obtain ⟨b, off, he, hbl, hcell⟩ := HM.out (j / 5) hi
      injection he with he
      subst he
      obtain ⟨q0, q1, q2, q3, q4⟩ := hcell (j / 5) hi
      rw [show j = j / 5 * 5 + j % 5 by omega, flatMap_at encW 5 (fun _ => rfl) l (j / 5) (j % 5) hi (by omega)] at hj
      have hm : j % 5 = 0 ∨ j % 5 = 1 ∨ j % 5 = 2 ∨ j % 5 = 3 ∨ j % 5 = 4 := by omega
      rw [Addr.add_lit]
      refine cell?_alloc_some _ ?_
      rcases hm with hm | hm | hm | hm | hm
      · rw [hm] at hj
        have : u = .string l[j / 5].name := by simpa using hj.symm
        rw [this, ← q0]; congr 2; omega
      · rw [hm] at hj
        have : u = .string l[j / 5].url := by simpa using hj.symm
        rw [this, ← q1]; congr 2; omega
      · rw [hm] at hj
        have : u = .string l[j / 5].kind := by simpa using hj.symm
        rw [this, ← q2]; congr 2; omega
      · rw [hm] at hj
        have : u = .int .i64 l[j / 5].strip := by simpa using hj.symm
        rw [this, ← q3]; congr 2; omega
      · rw [hm] at hj
        have : u = .int .i64 l[j / 5].sum := by simpa using hj.symm
        rw [this, ← q4]; congr 2; omega
    case c2 =>
      intro u hu
      obtain ⟨f, _, hf⟩ := List.mem_flatMap.1 hu
      simp at hf
      rcases hf with rfl | rfl | rfl | rfl | rfl <;> rfl
    case c3 => rw [maxLen_eq]; omega
    case c4 => omega
    case c5 => simp
    intro v' w' hown hgrow _
    have hb : Below w.heap.size w w' := ((Below.refl _ w).alloc (Nat.le_refl _) _).grown hgrow (by simp) (by intro k hk; simp [Value.ownBlock] at hk; omega)
    have H : Hid (WOwn w' w.heap.size v' l) := by
      show w'.ownsRow _ _ _ _ _ _
      simpa using hown
    clear hown hgrow HM
    go_wp2_with fail
    go_ret
    exact ⟨⟨_, rfl, H⟩, hb⟩
end Go.Proofs.YtcjjbpoaojjojaaGreatDoor

namespace Go.Proofs.YtcjjbpoaojjojaaGreatDoor
open Go Go.RowKit

def SmallW (x : WantB) : Prop := x.name.size ≤ 30000 ∧ x.url.size ≤ 100000 ∧ x.kind.size ≤ 30000
theorem IsErr.nil0 {E : Nat → Addr} {w : World} {v : Value} {er : Er} (h : IsErr E w v er) (h0 : er.code = 0) : v = .nilIface :=
  IsErr.nil_inv (a := er.at?) (by rw [show er = ⟨er.code, er.at?⟩ from rfl, h0] at h; exact h)
/-- What lock.Check hands back. -/
def LockPost (E : Nat → Addr) (er : Er) (w : World) (e : Ending) (w' : World) : Prop :=
  (∃ ev, e = .returned ev ∧ Hid (IsErr E w' ev er)) ∧ Below w.heap.size w w'
theorem leq_names (a b : ByteArray) : leqB (bl a) (bl b) = (Op.bytesLess a.toList b.toList || a.toList == b.toList) := by
  unfold leqB
  rw [toList_bl, toList_bl]

set_option maxHeartbeats 4000000 in
set_option maxRecDepth 100000 in
theorem lockCheck_any {E : Nat → Addr} (v : Value) (l : List WantB) (w : World) (hv : WRow w v l) (hl : l.length ≤ 100000) (hS : ∀ f ∈ l, SmallW f) (hE : FEnv E w) :
    Calls Tryz.prog 153 #[v] w (LockPost E (lockEr l) w) := by
  have HV := Lib.hid hv
  obtain ⟨ao, cap, rfl⟩ := hv.len
  have HSM := Lib.hid hS
  have HE := Lib.hid hE
  clear hS hE hv
  go_enter Tryz.func153, Tryz.ntmps153
  by_cases h20 : l.length ≤ 20
  · go_wp2_with fail
    go_loopw [12] (fun i wr => ∃ k : Nat, k ≤ l.length ∧ i = .int .i64 k ∧ Hid (lockGo none 0 l = lockGo (prevW l k) k (l.drop k)) ∧ Below w.heap.size w wr) (fun i _ => l.length - (intOf i).toNat)
    case atStart => exact ⟨0, Nat.zero_le _, rfl, rfl, Below.refl _ _⟩
    case round =>
      obtain ⟨k, hk, rfl, HF, hb⟩ := hrel
      by_cases hlt : k < l.length
      · obtain ⟨b, off, rfl, hcell⟩ := HV.out.at hlt
        obtain ⟨q0, q1, q2, q3, q4⟩ := hcell wr hb
        have HAT := Lib.hid (fun c => lockEr_at (c := c) h20 hlt HF.out)
        have HNX := Lib.hid (lockGo_next hlt HF.out)
        have HW := Lib.hid (fun c => lockE_want (c := c) hlt)
        have HFR := Lib.hid (fun h0 => lockE_from hlt h0)
        have HFI : Hid (k = 0 → wantE l[k] = 0 → lockE (prevW l k) l[k] = 0) := fun e h => by subst e; exact lockE_first hlt h
        have HPV : Hid (∀ h0 : 0 < k, ∀ W, Below w.heap.size w W → W.cell? ⟨b, off + (k - 1) * 5, none⟩ = some (.string (l[k - 1]'(by omega)).name)) := fun h0 W hW => by
          obtain ⟨b', off', e, h⟩ := HV.out.at (show k - 1 < l.length by omega)
          injection e with e
          injection e with e1 e2
          subst e1 e2
          exact (h W hW).1
        have sz := HSM.out l[k] (List.getElem_mem hlt)
        clear hcell
        obtain ⟨f, hf⟩ : ∃ f, l[k] = f := ⟨_, rfl⟩
        rw [hf] at q0 q1 q2 q3 q4 sz HAT HNX HW HFR HFI
        clear hf
        obtain ⟨pf, hpf⟩ : ∃ pf, wr.heap.size = pf := ⟨_, rfl⟩
        obtain ⟨wa, hwa⟩ : ∃ wa, wr.alloc (.cells #[.string f.name, .string f.url, .string f.kind, .int .i64 f.strip, .int .i64 f.sum] 60) = wa := ⟨_, rfl⟩
        have hal : Below wr.heap.size wr wa := by rw [← hwa]; exact (Below.refl _ _).alloc (Nat.le_refl _) _
        have BX := Lib.hid (show WBox wa pf f by rw [← hwa, ← hpf]; exact WBox.new wr f)
        have Ba := Lib.hid (hb.trans (hal.mono hb.size))
        have HPF := Lib.hid hpf
        have HWA := Lib.hid hwa
        have C := Lib.hid (wantCheck_any f wa (by have := sz.1; omega) (by have := sz.2.1; omega) (HE.out.ext Ba.out))
        clear hal hpf hwa hb
        go_upto_region 6 with fail
        rw [HWA.out, HPF.out]
        clear q0 q1 q2 q3 q4
        obtain ⟨c0, c1, c2, c3, c4⟩ := BX.out.cells
        go_wp2_with fail
        refine C.out.mono ?_
        clear C
        rintro e w1 ⟨rfl, hb1⟩
        have B1 := Lib.hid (Ba.out.trans (hb1.mono Ba.out.size))
        have BX1 := Lib.hid (BX.out.ext hb1)
        clear hb1 c0 c1 c2 c3 c4 BX
        obtain ⟨c0, _, _, _, _⟩ := BX1.out.cells
        cases hw : wantE f with
        | succ c =>
          have hle : c < 13 := by have := wantE_le f; omega
          have HY := Lib.hid (HAT.out c (HW.out c hw))
          rw [show errV E (c + 1) = sentV E c from rfl]
          clear HAT HNX HW HFR HFI hw HF
          go_wp2_with fail
          go_quiet (fail)
          obtain ⟨wq, hwq⟩ : ∃ wq, w1.drewN nq = wq := ⟨_, rfl⟩
          have Bq : Hid (Below w.heap.size w wq) := by show Below _ _ _; rw [← hwq]; exact B1.out.trans ((below_drewN _ w1 nq).mono B1.out.size)
          rw [hwq]
          clear hwq c0 B1
          go_wp2_with fail
          go_ret
          refine ⟨⟨_, rfl, ?_⟩, Bq.out.alloc Bq.out.size _⟩
          show IsErr _ _ _ _
          rw [HY.out]
          exact IsErr.fault E _ (c) (by omega) _ _ (by rw [World.cell?_alloc_at _ _ _ _ rfl]; rfl) (by rw [World.cell?_alloc_at _ _ _ _ rfl]; rfl)
        | zero =>
          rw [show errV E 0 = .nilIface from rfl]
          by_cases hk0 : k = 0
          · have HF2 : Hid (lockGo none 0 l = lockGo (prevW l (k + 1)) (k + 1) (l.drop (k + 1))) := HNX.out (HFI.out hk0 hw)
            have hd0 : decide (0 < k) = false := decide_eq_false (by omega)
            have hkz : k ≤ 0 := by omega
            clear HAT HNX HW HFR HFI hw HF hk0 HPV
            go_wp2_with fail
            go_quiet (fail)
            go_wp2_with fail
            go_roundw
            case rel => exact ⟨k + 1, by omega, by go_num, HF2, B1.out.trans ((below_drewN _ w1 nq).mono B1.out.size)⟩
            case measure => simp [intOf]; omega
          · have h0 : 0 < k := by omega
            have hE := HFR.out h0 hw
            have p0 := HPV.out h0 w1 B1.out
            obtain ⟨g, hg⟩ : ∃ g, l[k - 1]'(by omega) = g := ⟨_, rfl⟩
            rw [hg] at hE p0
            have hwr : IntKind.i64.wrap ((k : Int) - 1) = ((k - 1 : Nat) : Int) := by rw [IntWalk.i64_in _ (by omega)]; omega
            have hd0 : decide (0 < k) = true := decide_eq_true (by omega)
            have hkl : ((k - 1 : Nat) : Int) < (l.length : Int) := by omega
            obtain ⟨lq, hlq⟩ : ∃ lq, (Op.bytesLess f.name.toList g.name.toList || f.name.toList == g.name.toList) = lq := ⟨_, rfl⟩
            have HEQ : Hid (lockE (prevW l k) f = if lq = true then 9 else 0) := by show _ = _; rw [hE, leq_names, hlq]
            have HLQ := Lib.hid hlq
            clear hE hg hlq hw HW HFR HFI HPV
            go_wp2_with fail
            go_quiet (fail)
            clear hwr hkl hd0 p0
            rw [HLQ.out]
            obtain ⟨wq, hwq⟩ : ∃ wq, w1.drewN nq = wq := ⟨_, rfl⟩
            have Bq : Hid (Below w.heap.size w wq) := by show Below _ _ _; rw [← hwq]; exact B1.out.trans ((below_drewN _ w1 nq).mono B1.out.size)
            rw [hwq]
            clear hwq c0 B1
            cases lq with
            | true =>
              have HY := Lib.hid (HAT.out 8 (by rw [HEQ.out]; rfl))
              have e1 : wq.cell? ⟨9, 0, none⟩ = some (sentV E 8) := (HE.out.ext Bq.out).1.err 8 (by decide)
              clear HAT HNX HEQ HF
              go_wp2_with fail
              go_ret
              refine ⟨⟨_, rfl, ?_⟩, Bq.out.alloc Bq.out.size _⟩
              show IsErr _ _ _ _
              rw [HY.out]
              exact IsErr.fault E _ (8) (by omega) _ _ (by rw [World.cell?_alloc_at _ _ _ _ rfl]; rfl) (by rw [World.cell?_alloc_at _ _ _ _ rfl]; rfl)
            | false =>
              have HF2 : Hid (lockGo none 0 l = lockGo (prevW l (k + 1)) (k + 1) (l.drop (k + 1))) := HNX.out (by rw [HEQ.out]; rfl)
              clear HAT HNX HEQ HF
              go_wp2_with fail
              go_roundw
              case rel => exact ⟨k + 1, by omega, by go_num, HF2, Bq.out⟩
              case measure => simp [intOf]; omega
      · obtain rfl : k = l.length := by omega
        have HY := Lib.hid (lockEr_end h20 HF.out)
        clear HF
        go_wp2_with fail
        go_ret
        exact ⟨⟨_, rfl, by show IsErr _ _ _ _; rw [HY.out]; exact .inl ⟨rfl, rfl⟩⟩, hb⟩
  · have HY := Lib.hid (lockEr_many (l := l) (by omega))
    have c1 : w.cell? ⟨8, 0, none⟩ = some (sentV E 7) := HE.out.1.err 7 (by decide)
    go_wp2_with fail
    go_ret
    exact ⟨⟨_, rfl, by show IsErr _ _ _ _; rw [HY.out]; exact IsErr.base E _ 7 (by decide)⟩, Below.refl _ _⟩
end Go.Proofs.YtcjjbpoaojjojaaGreatDoor

namespace Go.Proofs.YtcjjbpoaojjojaaGreatDoor
open Go Go.RowKit

theorem wantTx_len (x : WantB) : (wantTx x).length ≤ x.name.size + x.url.size + x.kind.size + 30 := by
  by_cases h : wantE x = 0
  · obtain ⟨n1, n2, n3, n4⟩ := want_nums h
    have d1 : (Lib.decDigits x.strip.toNat).length ≤ 10 := decDigits_len_le 9 _ (by omega)
    have d2 : (Lib.decDigits x.sum.toNat).length ≤ 10 := decDigits_len_le 9 _ (by omega)
    rw [wantTx_is h]
    simp only [List.length_append, List.length_cons, bl_length]
    omega
  · unfold wantTx
    rw [if_pos h]
    simp
set_option maxRecDepth 100000 in
theorem lockFind_any (v : Value) (l : List WantB) (p : ByteArray) (w : World) (hv : WRow w v l) (hl : l.length ≤ 100000) :
    Calls Tryz.prog 118 #[v, .string p] w (WantIxPost l p w) := by
  obtain ⟨tb, htb⟩ : ∃ tb, w.heap.size = tb := ⟨_, rfl⟩
  obtain ⟨w0, hw0⟩ : ∃ w0, w.alloc (.cells #[.string p] 9) = w0 := ⟨_, rfl⟩
  have hB : Below w.heap.size w w0 := by rw [← hw0]; exact (Below.refl _ w).alloc (Nat.le_refl _) _
  have hT : w0.heap[tb]? = some (.cells #[.string p] 9 (0, 0)) := by rw [← hw0, ← htb]; exact heap_alloc_new w _
  have C := Lib.hid (indexName_any v l p tb w0 (hv.ext hB) hl (by rw [Lib.cell_of_heap hT]; rfl))
  have HA := Lib.hid hB
  have HW0 := Lib.hid hw0
  have HTB := Lib.hid htb
  obtain ⟨ao, cap, rfl⟩ := hv.len
  clear hB hv hT hw0 htb
  go_enter Tryz.func118, Tryz.ntmps118
  go_wp2_with fail
  rw [HW0.out, HTB.out]
  refine C.out.mono ?_
  clear C
  rintro e w1 ⟨rfl, hb1⟩
  go_wp2_with fail
  go_ret
  exact ⟨rfl, HA.out.trans (hb1.mono HA.out.size)⟩
end Go.Proofs.YtcjjbpoaojjojaaGreatDoor

namespace Go.Proofs.YtcjjbpoaojjojaaGreatDoor
open Go Go.RowKit

set_option maxHeartbeats 1000000 in
set_option maxRecDepth 100000 in
theorem refFindWant_any (v : Value) (l : List WantB) (p : ByteArray) (w : World) (hv : WRow w v l) (hl : l.length ≤ 100000) :
    Calls Tryz.prog 121 #[v, .string p] w (WantIxPost l p w) := by
  have HV := Lib.hid hv
  obtain ⟨ao, cap, rfl⟩ := hv.len
  clear hv
  go_enter Tryz.func121, Tryz.ntmps121
  go_wp2_with fail
  go_loopw [5] (fun i wr => ∃ k : Nat, k ≤ l.length ∧ i = .int .i64 k ∧ Hid (∀ f ∈ l.take k, f.name ≠ p) ∧ Below w.heap.size w wr) (fun i _ => l.length - (intOf i).toNat)
  case atStart => exact ⟨0, Nat.zero_le _, rfl, (fun f h => by cases h), Below.refl _ _⟩
  case round =>
    obtain ⟨k, hk, rfl, HA, hb⟩ := hrel
    by_cases hlt : k < l.length
    · obtain ⟨b, off, rfl, hcell⟩ := HV.out.at hlt
      obtain ⟨q0, _, _, _, _⟩ := hcell wr hb
      have HT : Hid (l[k].name ≠ p → ∀ f ∈ l.take (k + 1), f.name ≠ p) := fun hne f hf => by
        rw [List.take_succ_eq_append_getElem hlt] at hf
        rcases List.mem_append.1 hf with h | h
        · exact HA.out f h
        · obtain rfl := List.mem_singleton.1 h; exact hne
      have eq := str_eqb l[k].name p
      by_cases hq : l[k].name = p
      · have HQ := Lib.hid (findW_first HA.out hlt hq)
        rw [decide_eq_true hq] at eq
        obtain ⟨f, hf⟩ : ∃ f, l[k] = f := ⟨_, rfl⟩
        rw [hf] at q0 eq
        clear hq HT HA hf hcell
        go_wp2_with fail
        go_ret
        exact ⟨by rw [HQ.out]; rfl, hb⟩
      · have HQ := Lib.hid (HT.out hq)
        rw [decide_eq_false hq] at eq
        obtain ⟨f, hf⟩ : ∃ f, l[k] = f := ⟨_, rfl⟩
        rw [hf] at q0 eq
        clear hq HT HA hf hcell
        go_wp2_with fail
        go_roundw
        case rel => exact ⟨k + 1, by omega, by go_num, HQ, hb⟩
        case measure => simp [intOf]; omega
    · obtain rfl : k = l.length := by omega
      have HQ : Hid (∀ f ∈ l, f.name ≠ p) := by have := HA.out; rwa [List.take_length] at this
      clear HA
      go_wp2_with fail
      go_ret
      exact ⟨by rw [findW_none.2 HQ.out]; rfl, hb⟩

theorem want_eq (f g : WantB) : f = g ↔ f.name = g.name ∧ f.url = g.url ∧ f.kind = g.kind ∧ f.strip = g.strip ∧ f.sum = g.sum := by cases f; cases g; simp
theorem int_eqb (a b : Int) : (a == b) = decide (a = b) := by
  by_cases h : a = b
  · subst h; simp
  · rw [decide_eq_false h, beq_eq_false_iff_ne]; exact h

set_option maxHeartbeats 2000000 in
set_option maxRecDepth 100000 in
theorem sameWants_any {w : World} {v u : Value} {l m : List WantB} (hv : WRow w v l) (hu : WRow w u m) (hn : l.length ≤ 1000000) :
    Calls Tryz.prog 42 #[v, u] w fun e w' => e = .returned (.bool (decide (l = m))) ∧ Below w.heap.size w w' := by
  have HV := Lib.hid hv
  have HU := Lib.hid hu
  obtain ⟨ao, cap, rfl⟩ := hv.len
  obtain ⟨ao2, cap2, rfl⟩ := hu.len
  clear hv hu
  by_cases hlen : l.length = m.length
  · have HL := Lib.hid hlen
    have hn2 : m.length ≤ 1000000 := by omega
    obtain ⟨n, hnn⟩ : ∃ n, l.length = n := ⟨_, rfl⟩
    have HN := Lib.hid hnn
    rw [← hlen, hnn] at HU ⊢
    rw [hnn] at HV hn
    clear hlen hnn hn2
    go_enter Tryz.func42, Tryz.ntmps42
    go_wp2_with fail
    go_loopw [5] (fun i w1 => ∃ k : Nat, k ≤ n ∧ i = .int .i64 k ∧ Below w.heap.size w w1 ∧ Hid (l.take k = m.take k)) (fun i _ => n - (intOf i).toNat)
    case atStart => exact ⟨0, Nat.zero_le _, rfl, Below.refl _ _, rfl⟩
    case round =>
      obtain ⟨k, hk, rfl, hb, HK⟩ := hrel
      by_cases hlt : k < n
      · have hll : k < l.length := by rw [HN.out]; exact hlt
        have hlm : k < m.length := by rw [← HL.out]; exact hll
        obtain ⟨b, off, rfl, hcell⟩ := HV.out.at hll
        obtain ⟨b2, off2, rfl, hcell2⟩ := HU.out.at hlm
        obtain ⟨q0, q1, q2, q3, q4⟩ := hcell wr hb
        obtain ⟨p0, p1, p2, p3, p4⟩ := hcell2 wr hb
        clear hcell hcell2
        by_cases hq : l[k] = m[k]
        · have HK2 : Hid (l.take (k + 1) = m.take (k + 1)) := by
            show _ = _
            rw [List.take_succ_eq_append_getElem hll, List.take_succ_eq_append_getElem hlm, HK.out, hq]
          rw [hq] at q0 q1 q2 q3 q4
          clear hq HK
          generalize m[k] = f at q0 q1 q2 q3 q4 p0 p1 p2 p3 p4
          have e0 : (f.name.toList == f.name.toList) = true := beq_self_eq_true _
          have e1 : (f.url.toList == f.url.toList) = true := beq_self_eq_true _
          have e2 : (f.kind.toList == f.kind.toList) = true := beq_self_eq_true _
          have e3 : (f.strip == f.strip) = true := beq_self_eq_true _
          have e4 : (f.sum == f.sum) = true := beq_self_eq_true _
          clear hll hlm
          go_wp2_with fail
          go_quiet (fail)
          go_wp2_with fail
          go_roundw
          case rel => exact ⟨k + 1, by omega, by go_num, hb.trans ((below_drewN _ _ _).mono hb.size), HK2⟩
          case measure => simp [intOf]; omega
        · have HX : Hid (decide (l = m) = false) := decide_eq_false (fun e => hq (by simp [e]))
          generalize l[k] = f at q0 q1 q2 q3 q4 hq
          generalize m[k] = g at p0 p1 p2 p3 p4 hq
          have e0 := str_eqb f.name g.name
          have e1 := str_eqb f.url g.url
          have e2 := str_eqb f.kind g.kind
          have e3 := int_eqb f.strip g.strip
          have e4 := int_eqb f.sum g.sum
          have hf := (not_congr (want_eq f g)).1 hq
          clear hq HK hll hlm
          obtain ⟨b0, hb0⟩ : ∃ b0, decide (f.name = g.name) = b0 := ⟨_, rfl⟩
          obtain ⟨b1, hb1⟩ : ∃ b1, decide (f.url = g.url) = b1 := ⟨_, rfl⟩
          obtain ⟨b2', hb2⟩ : ∃ b1, decide (f.kind = g.kind) = b1 := ⟨_, rfl⟩
          obtain ⟨b3, hb3⟩ : ∃ b1, decide (f.strip = g.strip) = b1 := ⟨_, rfl⟩
          obtain ⟨b4, hb4⟩ : ∃ b1, decide (f.sum = g.sum) = b1 := ⟨_, rfl⟩
          rw [hb0] at e0
          rw [hb1] at e1
          rw [hb2] at e2
          rw [hb3] at e3
          rw [hb4] at e4
          have hnot : ¬ (b0 = true ∧ b1 = true ∧ b2' = true ∧ b3 = true ∧ b4 = true) := fun ⟨h0, h1, h2, h3, h4⟩ => hf ⟨of_decide_eq_true (hb0.trans h0), of_decide_eq_true (hb1.trans h1), of_decide_eq_true (hb2.trans h2), of_decide_eq_true (hb3.trans h3), of_decide_eq_true (hb4.trans h4)⟩
          clear hf hb0 hb1 hb2 hb3 hb4
          cases b0 <;> cases b1 <;> cases b2' <;> cases b3 <;> cases b4 <;> first | (exact absurd ⟨rfl, rfl, rfl, rfl, rfl⟩ hnot) | skip
          all_goals
            clear hnot
            go_wp2_with fail
            go_quiet (fail)
            go_wp2_with fail
            go_ret
            exact ⟨congrArg (fun b => Ending.returned (.bool b)) HX.out.symm, hb.trans ((below_drewN _ _ _).mono hb.size)⟩
      · obtain rfl : k = n := by omega
        have HX : Hid (decide (l = m) = true) := decide_eq_true (by have := HK.out; rwa [List.take_of_length_le (by rw [HN.out]; exact Nat.le_refl _), List.take_of_length_le (by rw [← HL.out, HN.out]; exact Nat.le_refl _)] at this)
        clear HK
        go_wp2_with fail
        go_ret
        exact ⟨congrArg (fun b => Ending.returned (.bool b)) HX.out.symm, hb⟩
  · have HX : Hid (decide (l = m) = false) := decide_eq_false (fun e => hlen (by rw [e]))
    have hne : ((l.length : Int) == (m.length : Int)) = false := by rw [beq_eq_false_iff_ne]; omega
    go_enter Tryz.func42, Tryz.ntmps42
    go_wp2_with fail
    go_ret
    exact ⟨congrArg (fun b => Ending.returned (.bool b)) HX.out.symm, Below.refl _ _⟩
end Go.Proofs.YtcjjbpoaojjojaaGreatDoor

namespace Go.Proofs.YtcjjbpoaojjojaaGreatDoor
open Go Go.RowKit

/-- Files that are read by an append. -/
def WSrc (w : World) (v : Value) (m : List WantB) : Prop :=
  v = .slice none 0 0 ∧ m = [] ∨ ∃ ad cap, v = .slice (some ad) m.length cap ∧ ∀ k, (hk : k < m.length) → ∃ b off, ad = ⟨b, off, none⟩ ∧ w.cell? ⟨b, off + k * 5, none⟩ = some (.string m[k].name) ∧ w.cell? ⟨b, off + k * 5 + 1, none⟩ = some (.string m[k].url) ∧ w.cell? ⟨b, off + k * 5 + 2, none⟩ = some (.string m[k].kind) ∧ w.cell? ⟨b, off + k * 5 + 3, none⟩ = some (.int .i64 m[k].strip) ∧ w.cell? ⟨b, off + k * 5 + 4, none⟩ = some (.int .i64 m[k].sum)
theorem WSrc.none (w : World) : WSrc w (.slice none 0 0) [] := .inl ⟨rfl, rfl⟩
theorem WSrc.drop0 {w : World} {ao : Option Addr} {n cap k : Nat} {l : List WantB} (h : WSrc w (.slice ao n cap) l) (hn : l.length = n) (hc : n ≤ cap) (hk : k ≤ n) : WSrc w (.slice (if cap = k then ao else ao.map (·.add (k * 5))) (n - k) (cap - k)) (l.drop k) := by
  rcases h with ⟨h, rfl⟩ | ⟨ad, c, h, hcell⟩
  · injection h with e1 e2 e3
    subst e1 e2 e3
    left
    simp
  · injection h with e1 e2 e3
    subst e1 e3
    right
    by_cases hck : cap = k
    · subst hck
      have : n = cap := by omega
      subst this
      rw [if_pos rfl]
      exact ⟨ad, 0, by simp [hn], fun j hj => absurd hj (by simp [hn])⟩
    · rw [if_neg hck]
      refine ⟨ad.add (k * 5), cap - k, by simp [hn], fun j hj => ?_⟩
      rw [List.length_drop] at hj
      obtain ⟨b, off, rfl, this⟩ := hcell (k + j) (by omega)
      rw [List.getElem_drop]
      refine ⟨b, off + k * 5, by rw [Addr.add_lit], ?_⟩
      rw [show off + k * 5 + j * 5 = off + (k + j) * 5 by omega]
      exact this
theorem WSrc.take0 {w : World} {ao : Option Addr} {n cap k : Nat} {l : List WantB} (h : WSrc w (.slice ao n cap) l) (hn : l.length = n) (hk : k ≤ n) : WSrc w (.slice ao k cap) (l.take k) := by
  rcases h with ⟨h, rfl⟩ | ⟨ad, c, h, hcell⟩
  · injection h with e1 e2 e3
    subst e1 e2 e3
    left
    have : k = 0 := by omega
    subst this; simp
  · injection h with e1 e2 e3
    subst e1 e3
    right
    refine ⟨ad, cap, by rw [List.length_take, Nat.min_eq_left (by omega)], fun j hj => ?_⟩
    rw [List.length_take] at hj
    rw [List.getElem_take]
    exact hcell j (by omega)
theorem WSrc.dropS {w : World} {b off n cap k : Nat} {l : List WantB} (h : WSrc w (.slice (some ⟨b, off, Option.none⟩) n cap) l) (hn : l.length = n) (hc : n ≤ cap) (hk : k ≤ n) : WSrc w (.slice (if cap = k then some ⟨b, off, Option.none⟩ else some ⟨b, off + k * 5, Option.none⟩) (n - k) (cap - k)) (l.drop k) := by
  have := h.drop0 hn hc hk
  rw [Option.map_some, Addr.add_lit] at this
  exact this
theorem WSrc.one (w : World) (f : WantB) (t : TypeId) : WSrc (w.alloc (.cells #[.string f.name, .string f.url, .string f.kind, .int .i64 f.strip, .int .i64 f.sum] t)) (.slice (some ⟨w.heap.size, 0, Option.none⟩) 1 1) [f] := by
  refine .inr ⟨⟨w.heap.size, 0, Option.none⟩, 1, rfl, fun k hk => ?_⟩
  have hA := heap_alloc_new w (.cells #[.string f.name, .string f.url, .string f.kind, .int .i64 f.strip, .int .i64 f.sum] t)
  have : k = 0 := by simpa using hk
  subst this
  refine ⟨_, _, rfl, ?_, ?_, ?_, ?_, ?_⟩ <;> rw [Lib.cell_of_heap hA] <;> rfl
theorem WArg.src {w : World} {v : Value} {l : List WantB} (h : WArg w v l) : WSrc w v l := by
  obtain ⟨⟨ao, cap, rfl, h1, h2, h3⟩, hn⟩ := h
  cases ao with
  | none =>
    obtain ⟨h0, rfl⟩ := hn _ _ rfl
    left
    rw [h0]
    exact ⟨rfl, List.eq_nil_of_length_eq_zero h0⟩
  | some ad =>
    right
    refine ⟨ad, cap, rfl, fun k hk => ?_⟩
    obtain ⟨b, off, e, _, hc⟩ := h3 k hk
    injection e with e
    exact ⟨b, off, e, hc k hk⟩
theorem WOwn.src {w : World} {base : Nat} {v : Value} {l : List WantB} (h : WOwn w base v l) : WSrc w v l := h.arg.src
theorem WSrc.ext {w w' : World} {v : Value} {l : List WantB} {B : Nat} (h : WSrc w v l) (hb : Below B w w') (hl : ∀ b o c n, v = .slice (some ⟨b, o, Option.none⟩) n c → b < B) : WSrc w' v l := by
  rcases h with h | ⟨ad, c, rfl, hcell⟩
  · exact .inl h
  · refine .inr ⟨ad, c, rfl, fun k hk => ?_⟩
    obtain ⟨b, off, rfl, q0, q1, q2, q3, q4⟩ := hcell k hk
    have hB := hl _ _ _ _ rfl
    exact ⟨b, off, rfl, by rw [hb.cell (p := ⟨b, off + k * 5, Option.none⟩) hB]; exact q0, by rw [hb.cell (p := ⟨b, off + k * 5 + 1, Option.none⟩) hB]; exact q1, by rw [hb.cell (p := ⟨b, off + k * 5 + 2, Option.none⟩) hB]; exact q2, by rw [hb.cell (p := ⟨b, off + k * 5 + 3, Option.none⟩) hB]; exact q3, by rw [hb.cell (p := ⟨b, off + k * 5 + 4, Option.none⟩) hB]; exact q4⟩

/- append(s, x...) of files, s the call own. -/
set_option maxRecDepth 100000 in
theorem wpList_append_wants {w : World} {ops : Array Oper} {rest : List Oper} {o : Oper} {a : Act} {Q : Exit → Act → World → Prop} (hgd : o.guard = none) (s x : Operand)
    (ho : o.op = .call { callee := .builtin .append, args := #[s, x], argTypes := #[79, 79] })
    (base : Nat) (v : Value) (l : List WantB) (hs : a.eval s = v) (hown : WOwn w base v l) (u : Value) (m : List WantB) (hx : a.eval x = u) (hsrc : WSrc w u m) (hlen : l.length + m.length ≤ 1000000) (hbase : base ≤ w.heap.size)
    (h : ∀ v' w', Hid (WOwn w' base v' (l ++ m)) → Hid (∀ w0, Below base w0 w → Below base w0 w') → wpList Tryz.prog ops Q rest (a.put o.dst v') w') : wpList Tryz.prog ops Q (o :: rest) a w := by
  obtain ⟨i0, hi0, hz0, hz1, hz2⟩ := info_parts Tryz.infoWant
  rcases hsrc with ⟨rfl, rfl⟩ | ⟨ad, c, rfl, hcell⟩
  · refine wpList_append_own_none hgd s x 79 ho base 60 i0 5 Tryz.underlying79 hi0 v l.length _ hs hown hx ?_
    refine h _ _ ?_ (fun _ hb => hb)
    show WOwn _ _ _ _
    rw [List.append_nil]; exact hown
  · refine wpList_append_own w hgd s x 79 ho base 60 i0 (.agg #[.string ⟨#[]⟩, .string ⟨#[]⟩, .string ⟨#[]⟩, .int .i64 0, .int .i64 0]) 5 64 Tryz.underlying79 hi0 hz0 hz1 hz2 rfl (by decide) v l.length _ hs hown ad m.length c (m.flatMap encW) hx (flatMap_len _ 5 (fun _ => rfl) m) ?c1 ?c2 ?c3 ?c4 hbase ?_
    case c1 =>
      intro j u hj
      have hjl : j < (m.flatMap encW).length := (List.getElem?_eq_some_iff.1 hj).1
      rw [flatMap_len encW 5 (fun _ => rfl)] at hjl
      have hi : j / 5 < m.length := by omega
      obtain ⟨b, off, rfl, q0, q1, q2, q3, q4⟩ := hcell (j / 5) hi
      rw [show j = j / 5 * 5 + j % 5 by omega, flatMap_at encW 5 (fun _ => rfl) m (j / 5) (j % 5) hi (by omega)] at hj
      have hm : j % 5 = 0 ∨ j % 5 = 1 ∨ j % 5 = 2 ∨ j % 5 = 3 ∨ j % 5 = 4 := by omega
      show w.cell? (Addr.add ⟨b, off, none⟩ j) = some u
      rw [Addr.add_lit]
      rcases hm with hm | hm | hm | hm | hm
      · rw [hm] at hj
        have : u = .string m[j / 5].name := by simpa using hj.symm
        rw [this, ← q0]; congr 2; omega
      · rw [hm] at hj
        have : u = .string m[j / 5].url := by simpa using hj.symm
        rw [this, ← q1]; congr 2; omega
      · rw [hm] at hj
        have : u = .string m[j / 5].kind := by simpa using hj.symm
        rw [this, ← q2]; congr 2; omega
      · rw [hm] at hj
        have : u = .int .i64 m[j / 5].strip := by simpa using hj.symm
        rw [this, ← q3]; congr 2; omega
      · rw [hm] at hj
        have : u = .int .i64 m[j / 5].sum := by simpa using hj.symm
        rw [this, ← q4]; congr 2; omega
    case c2 =>
      intro u hu
      obtain ⟨f, _, hf⟩ := List.mem_flatMap.1 hu
      simp at hf
      rcases hf with rfl | rfl | rfl | rfl | rfl <;> rfl
    case c3 => rw [maxLen_eq]; omega
    case c4 => omega
    intro v' w' hown' hgrow _
    refine h v' w' ?_ (fun w0 hb => hb.grown hgrow hbase (fun q hq => (World.ownsRow.lt hown q hq).1))
    show World.ownsRow _ _ _ _ _ _ _
    rw [List.length_append, List.flatMap_append]; exact hown'

end Go.Proofs.YtcjjbpoaojjojaaGreatDoor

namespace Go.Proofs.YtcjjbpoaojjojaaGreatDoor
open Go Go.RowKit

theorem found_iff {l : List WantB} {w : WantB} (hl : l.Pairwise wLt) : decide (((l.drop (placeW l w)).head?.map (fun g => decide (g.name = w.name))) = some true) = (findW w.name l).isSome := by
  obtain ⟨A, D, e, _, hD, hA1, hD1⟩ := place_parts (w := w) hl
  rw [hD, Bool.eq_iff_iff, decide_eq_true_iff, findW_isSome]
  constructor
  · intro h
    cases D with
    | nil => simp at h
    | cons d D =>
      have h2 : d.name = w.name := by simpa using h
      exact ⟨d, by rw [e]; simp, h2⟩
  · rintro ⟨x, hx, ex⟩
    rw [e] at hx
    rcases List.mem_append.1 hx with hx | hx
    · exact absurd ex (hA1 x hx).ne
    · cases D with
      | nil => cases hx
      | cons d D =>
        rcases List.mem_cons.1 hx with rfl | hx2
        · simp [ex]
        · have hp : (A ++ d :: D).Pairwise wLt := by rw [← e]; exact hl
          have h3 : wLt d x := (List.pairwise_cons.1 (List.pairwise_append.1 hp).2.1).1 x hx2
          exact absurd ((wLt.congr rfl ex).1 h3) (hD1 d (List.mem_cons_self ..))
theorem set5 {α : Type} (L : List α) (o : Nat) (x y z u v : α) (h : o + 5 ≤ L.length) : ((((L.set o x).set (o + 1) y).set (o + 2) z).set (o + 3) u).set (o + 4) v = splice L o [x, y, z, u, v] := by
  apply List.ext_getElem?
  intro j
  unfold splice
  simp only [List.getElem?_set, List.getElem?_append, List.length_take, List.length_cons, List.length_nil, List.getElem?_take, List.getElem?_drop, List.length_set]
  rw [Nat.min_eq_left (show o ≤ L.length by omega)]
  by_cases c1 : j < o
  · rw [if_neg (by omega), if_neg (by omega), if_neg (by omega), if_neg (by omega), if_neg (by omega), if_pos c1, if_pos c1]
  · by_cases c2 : j < o + 5
    · have : j = o ∨ j = o + 1 ∨ j = o + 2 ∨ j = o + 3 ∨ j = o + 4 := by omega
      have h0 : o < L.length := by omega
      have h1 : o + 1 < L.length := by omega
      have h2 : o + 2 < L.length := by omega
      have h3 : o + 3 < L.length := by omega
      have h4 : o + 4 < L.length := by omega
      rcases this with rfl | rfl | rfl | rfl | rfl
      · simp [h0]
      · simp [h1]; omega
      · simp [h2]; omega
      · simp [h3]; omega
      · simp [h4]; omega
    · rw [if_neg (by omega), if_neg (by omega), if_neg (by omega), if_neg (by omega), if_neg (by omega), if_neg c1, if_neg (by omega)]
      congr 1; omega
/-- A want is stored at a place of a row. -/
def rowPut (w : World) (g o : Nat) (f : WantB) : World := ((((w.setCell ⟨g, o, none⟩ (.string f.name)).setCell ⟨g, o + 1, none⟩ (.string f.url)).setCell ⟨g, o + 2, none⟩ (.string f.kind)).setCell ⟨g, o + 3, none⟩ (.int .i64 f.strip)).setCell ⟨g, o + 4, none⟩ (.int .i64 f.sum)
theorem wsplice_take {α : Type} (L cs : List α) (o n : Nat) (h : o + cs.length ≤ n) (hn : n ≤ L.length) : (splice L o cs).take n = splice (L.take n) o cs := by
  unfold splice
  rw [List.take_append, List.take_append, List.take_take, List.take_take, List.length_take, List.drop_take, Nat.min_eq_right (show o ≤ n by omega), Nat.min_eq_left (show o ≤ n by omega), Nat.min_eq_left (show o ≤ L.length by omega), List.take_of_length_le (l := cs) (by omega), show n - o - cs.length = n - (o + cs.length) by omega]
/-- One want written over. -/
theorem WOwn.over {w : World} {base g cap k : Nat} {cur : Array Value} {l : List WantB} (f : WantB) (hb : base ≤ g) (hg : w.heap[g]? = some (.cells cur 60 (0, 0))) (hn : l.length ≤ cap) (hc : cap ≤ maxLen) (hs : cur.size = cap * 5) (ht : cur.toList.take (l.length * 5) = l.flatMap encW) (hk : k < l.length) :
    WOwn (rowPut w g (k * 5) f) base (.slice (some ⟨g, 0, none⟩) l.length cap) (l.take k ++ f :: l.drop (k + 1)) ∧ Below base w (rowPut w g (k * 5) f) := by
  have e1 := setCell_eq_setRow w g (k * 5) cur 60 (0, 0) (.string f.name) hg
  have g1 := setRow_block (c' := cur.setIfInBounds (k * 5) (.string f.name)) hg
  have e2 := setCell_eq_setRow _ g (k * 5 + 1) _ 60 (0, 0) (.string f.url) g1
  have g2 := setRow_block (c' := (cur.setIfInBounds (k * 5) (.string f.name)).setIfInBounds (k * 5 + 1) (.string f.url)) g1
  have e3 := setCell_eq_setRow _ g (k * 5 + 2) _ 60 (0, 0) (.string f.kind) g2
  have g3 := setRow_block (c' := ((cur.setIfInBounds (k * 5) (.string f.name)).setIfInBounds (k * 5 + 1) (.string f.url)).setIfInBounds (k * 5 + 2) (.string f.kind)) g2
  have e4 := setCell_eq_setRow _ g (k * 5 + 3) _ 60 (0, 0) (.int .i64 f.strip) g3
  have g4 := setRow_block (c' := (((cur.setIfInBounds (k * 5) (.string f.name)).setIfInBounds (k * 5 + 1) (.string f.url)).setIfInBounds (k * 5 + 2) (.string f.kind)).setIfInBounds (k * 5 + 3) (.int .i64 f.strip)) g3
  have e5 := setCell_eq_setRow _ g (k * 5 + 4) _ 60 (0, 0) (.int .i64 f.sum) g4
  have g5 := setRow_block (c' := ((((cur.setIfInBounds (k * 5) (.string f.name)).setIfInBounds (k * 5 + 1) (.string f.url)).setIfInBounds (k * 5 + 2) (.string f.kind)).setIfInBounds (k * 5 + 3) (.int .i64 f.strip)).setIfInBounds (k * 5 + 4) (.int .i64 f.sum)) g4
  unfold rowPut
  rw [e1, e2, e3, e4, e5]
  refine ⟨?_, below_setRow (below_setRow (below_setRow (below_setRow (below_setRow (Below.refl _ _) hb _) hb _) hb _) hb _) hb _⟩
  have hlen : (l.take k ++ f :: l.drop (k + 1)).length = l.length := by simp; omega
  have hL : cur.toList.length = cap * 5 := by rw [Array.length_toList, hs]
  have hM : (((((cur.setIfInBounds (k * 5) (.string f.name)).setIfInBounds (k * 5 + 1) (.string f.url)).setIfInBounds (k * 5 + 2) (.string f.kind)).setIfInBounds (k * 5 + 3) (.int .i64 f.strip)).setIfInBounds (k * 5 + 4) (.int .i64 f.sum)).toList.take (l.length * 5) = (l.take k ++ f :: l.drop (k + 1)).flatMap encW := by
    rw [Array.toList_setIfInBounds, Array.toList_setIfInBounds, Array.toList_setIfInBounds, Array.toList_setIfInBounds, Array.toList_setIfInBounds, set5 _ _ _ _ _ _ _ (by omega), wsplice_take _ _ _ _ (by show k * 5 + 5 ≤ _; omega) (by omega), ht]
    unfold splice
    rw [List.flatMap_append, List.flatMap_cons, ← wenc_take, ← wenc_drop, show k * 5 + [Value.string f.name, .string f.url, .string f.kind, .int .i64 f.strip, .int .i64 f.sum].length = (k + 1) * 5 by show _ + 5 = _; omega]
  show World.ownsRow _ _ _ _ _ _ _
  rw [hlen]
  exact ⟨by rw [wenc_len, hlen], .inr ⟨g, cap, _, rfl, hb, g5, hn, hc, by simp [hs], hM⟩⟩
end Go.Proofs.YtcjjbpoaojjojaaGreatDoor

namespace Go.Proofs.YtcjjbpoaojjojaaGreatDoor
open Go Go.RowKit Go.Lib Go.Sort

set_option maxRecDepth 100000 in
theorem set1_grow (x y : WantB) (w : World) : Calls Tryz.prog 155 (#[.agg (encW x).toArray, .agg (encW y).toArray] ++ #[]) w fun e w' => e = .returned (.int .i64 (cfW x y)) ∧ ∃ q os', w' = grow (w.drewN q) os' := by
  show Calls Tryz.prog 155 #[.agg (encW x).toArray, .agg (encW y).toArray] w _
  go_enter Tryz.func155, Tryz.ntmps155
  go_wp2_with fail
  refine (Tryz.strings_Compare x.name y.name _).mono ?_
  rintro e w' ⟨rfl, rfl⟩
  go_wp2_with fail
  go_ret
  exact ⟨rfl, 0, _, by rw [alloc_eq_grow, alloc_eq_grow, grow_grow]; rfl⟩
/-- slices.BinarySearchFunc as lock.Set calls it. -/
theorem wsearch_any (f : WantB) (v : Value) (l : List WantB) (w : World) (hl : l.length ≤ 10000) (hv : WRow w v l) (hA : l.Pairwise wLt) :
    Calls Tryz.prog 154 #[v, .agg (encW f).toArray, .func (.func 155) #[] #[]] w (WSearchPost l f w) :=
  wsearch_gen f 155 (enters_of Tryz.func155 (by kernel_rfl) rfl) (fun x w => set1_grow x f w) v l w hl hv hA
end Go.Proofs.YtcjjbpoaojjojaaGreatDoor

namespace Go.Proofs.YtcjjbpoaojjojaaGreatDoor
open Go Go.RowKit

/-- What lock.Set and lock.Drop hand back. -/
def LSetPost (E : Nat → Addr) (r : Er × List WantB) (w : World) (e : Ending) (w' : World) : Prop :=
  (∃ v ev, e = .returned (.tuple #[v, ev]) ∧ Hid (IsErr E w' ev r.1) ∧ Hid (WOwn w' w.heap.size v r.2)) ∧ Below w.heap.size w w'
theorem LSetPost.none {E : Nat → Addr} {er : Er} {w w' : World} {ev : Value} (h : Hid (IsErr E w' ev er)) (hb : Below w.heap.size w w') : LSetPost E (er, []) w (.returned (.tuple #[.slice none 0 0, ev])) w' :=
  ⟨⟨_, _, rfl, h, WOwn.nil _ _⟩, hb⟩
theorem IsErr.sentW {E : Nat → Addr} {w : World} {k : Nat} (hk : k < 13) : IsErr E w (sentV E k) ⟨k + 1, none⟩ := .inr (.inl ⟨k, hk, rfl, rfl⟩)
theorem dropLk_from {l : List WantB} (n : ByteArray) (h : (lockEr l).code = 0) : dropLk l n = match findW n l with
    | none => (⟨6, none⟩, [])
    | some k => (⟨0, none⟩, l.eraseIdx k) := by unfold dropLk; rw [if_neg (by rw [h]; decide)]; cases findW n l <;> rfl
theorem setLk_from {l : List WantB} {x : WantB} (h : (lockEr l).code = 0) (h2 : wantE x = 0) : setLk l x = if (findW x.name l).isSome = true then (⟨0, none⟩, l.take (placeW l x) ++ x :: l.drop (placeW l x + 1))
  else if 20 ≤ l.length then (⟨8, none⟩, []) else (⟨0, none⟩, l.take (placeW l x) ++ x :: l.drop (placeW l x)) := by unfold setLk; rw [if_neg (by rw [h]; decide), if_neg (by rw [h2]; decide)]

set_option maxHeartbeats 2000000 in
set_option maxRecDepth 100000 in
theorem lockDrop_any {E : Nat → Addr} (v : Value) (l : List WantB) (p : ByteArray) (w : World) (hv : WArg w v l) (hl : l.length ≤ 10000) (hS : ∀ f ∈ l, SmallW f) (hE : FEnv E w) :
    Calls Tryz.prog 91 #[v, .string p] w (LSetPost E (dropLk l p) w) := by
  have HV := Lib.hid hv
  have HE := Lib.hid hE
  have C := Lib.hid (lockCheck_any v l w hv.1 (by omega) hS hE)
  obtain ⟨ao, cap, rfl⟩ := hv.1.len
  clear hE hS hv
  go_enter Tryz.func91, Tryz.ntmps91
  go_wp2_with fail
  refine C.out.mono ?_
  clear C
  rintro e w1 ⟨⟨ev, rfl, HI⟩, hb1⟩
  by_cases hz : (lockEr l).code = 0
  rotate_left
  · obtain ⟨t, x, rfl⟩ := HI.out.some_inv hz
    have HY : Hid (dropLk l p = (lockEr l, [])) := by show _ = _; unfold dropLk; rw [if_pos hz]
    clear hz
    go_wp2_with fail
    go_ret2
    rw [HY.out]
    exact LSetPost.none HI hb1
  · obtain rfl : ev = .nilIface := HI.out.nil0 hz
    have HD := Lib.hid (dropLk_from p hz)
    have C := Lib.hid (lockFind_any _ l p w1 (HV.out.1.ext hb1) (by omega))
    have B1 := Lib.hid hb1
    clear hz HI hb1
    go_wp2_with fail
    refine C.out.mono ?_
    clear C
    rintro e w2 ⟨rfl, hb2⟩
    have B2 := Lib.hid (B1.out.trans (hb2.mono B1.out.size))
    clear hb2
    cases hf : findW p l with
    | none =>
      have HY : Hid (dropLk l p = (⟨6, none⟩, [])) := by show _ = _; rw [HD.out, hf]
      rw [show findI none = -1 from rfl]
      have ex : w2.cell? ⟨3, 0, none⟩ = some (sentV E 5) := (HE.out.ext B2.out).1.err 5 (by decide)
      clear hf HD
      go_wp2_with fail
      go_quiet (fail)
      go_wp2_with fail
      go_ret2
      rw [HY.out]
      exact LSetPost.none (IsErr.sentW (by decide)) (B2.out.trans ((below_drewN _ _ _).mono B2.out.size))
    | some k =>
      have hk := (findW_some hf).1
      have HY : Hid (dropLk l p = (⟨0, none⟩, l.take k ++ l.drop (k + 1))) := by show _ = _; rw [HD.out, hf]; simp only; rw [List.eraseIdx_eq_take_drop_succ]
      rw [show findI (some k) = (k : Int) from rfl]
      have C := Lib.hid (cloneWants_any _ l w2 (by omega) (HV.out.ext B2.out))
      have hk0 : ¬ ((k : Int) < 0) := by omega
      clear hf HD
      go_wp2_with fail
      refine C.out.mono ?_
      clear C
      rintro e w3 ⟨⟨ov, rfl, HO⟩, hb3⟩
      have B3 := Lib.hid (B2.out.trans (hb3.mono B2.out.size))
      have HO3 := Lib.hid (WOwn.low HO.out B2.out.size)
      have C := Lib.hid (deleteWant_any l w.heap.size k ov w3 hk (by omega) HO3.out)
      clear HO hb3
      go_wp2_with fail
      refine C.out.mono ?_
      clear C
      rintro e w4 ⟨⟨o4, rfl, HO4⟩, hb4⟩
      go_wp2_with fail
      go_ret2
      rw [HY.out]
      exact ⟨⟨_, _, rfl, .inl ⟨rfl, rfl⟩, HO4⟩, B3.out.trans hb4⟩

set_option maxHeartbeats 4000000 in
set_option maxRecDepth 100000 in
theorem lockSet_any {E : Nat → Addr} (v : Value) (l : List WantB) (x : WantB) (w : World) (hv : WArg w v l) (hl : l.length ≤ 10000) (hS : ∀ f ∈ l, SmallW f) (hx : SmallW x) (hE : FEnv E w) :
    Calls Tryz.prog 80 #[v, .agg #[.string x.name, .string x.url, .string x.kind, .int .i64 x.strip, .int .i64 x.sum]] w (LSetPost E (setLk l x) w) := by
  obtain ⟨px, hpx⟩ : ∃ px, w.heap.size = px := ⟨_, rfl⟩
  obtain ⟨wx, hwx⟩ : ∃ wx, w.alloc (.cells #[.string x.name, .string x.url, .string x.kind, .int .i64 x.strip, .int .i64 x.sum] 60) = wx := ⟨_, rfl⟩
  have hbx : Below w.heap.size w wx := by rw [← hwx]; exact (Below.refl _ _).alloc (Nat.le_refl _) _
  have BX := Lib.hid (show WBox wx px x by rw [← hwx, ← hpx]; exact WBox.new w x)
  have hpw : w.heap.size ≤ px := Nat.le_of_eq hpx
  have HB := Lib.hid hbx
  have HE := Lib.hid hE
  have HV := Lib.hid hv
  have HWX := Lib.hid hwx
  have HPX := Lib.hid hpx
  obtain ⟨ao, cap, rfl⟩ := hv.1.len
  have C := Lib.hid (lockCheck_any _ l wx (hv.1.ext hbx) (by omega) hS (hE.ext hbx))
  have hx1 := hx.1
  have hx2 := hx.2.1
  clear hpx hwx hbx hE hv hS hx
  go_enter Tryz.func80, Tryz.ntmps80
  go_wp2_with fail
  rw [HWX.out, HPX.out]
  refine C.out.mono ?_
  clear C
  rintro e w1 ⟨⟨ev, rfl, HI⟩, hb1⟩
  have B1 := Lib.hid (HB.out.trans (hb1.mono HB.out.size))
  have BX1 := Lib.hid (BX.out.ext hb1)
  clear hb1 BX
  by_cases hz : (lockEr l).code = 0
  rotate_left
  · obtain ⟨t, y, rfl⟩ := HI.out.some_inv hz
    have HY : Hid (setLk l x = (lockEr l, [])) := by show _ = _; unfold setLk; rw [if_pos hz]
    clear hz
    go_wp2_with fail
    go_ret2
    rw [HY.out]
    exact LSetPost.none HI B1.out
  obtain rfl : ev = .nilIface := HI.out.nil0 hz
  have HZ := Lib.hid hz
  clear hz HI
  obtain ⟨c0, c1, c2, c3, c4⟩ := BX1.out.cells
  have C := Lib.hid (wantCheck_any x w1 (by omega) (by omega) (HE.out.ext B1.out))
  go_wp2_with fail
  refine C.out.mono ?_
  clear C
  rintro e w2 ⟨rfl, hb2⟩
  have B2 := Lib.hid (B1.out.trans (hb2.mono B1.out.size))
  have BX2 := Lib.hid (BX1.out.ext hb2)
  clear hb2 c0 c1 c2 c3 c4 BX1
  cases hw : wantE x with
  | succ c =>
    have hle : c < 13 := by have := wantE_le x; omega
    have HY : Hid (setLk l x = (⟨c + 1, none⟩, [])) := by show _ = _; unfold setLk; rw [if_neg (by rw [HZ.out]; decide), if_pos (by omega), hw]
    rw [show errV E (c + 1) = sentV E c from rfl]
    clear hw
    go_wp2_with fail
    go_ret2
    rw [HY.out]
    exact LSetPost.none (IsErr.sentW hle) B2.out
  | zero =>
  have HD := Lib.hid (setLk_from HZ.out hw)
  have hok := Lib.hid ((lockOk_iff l).1 HZ.out)
  have hl20 := hok.out.few
  rw [show errV E 0 = .nilIface from rfl]
  clear hw
  have C := Lib.hid (cloneWants_any _ l w2 (by omega) (HV.out.ext B2.out))
  go_wp2_with fail
  refine C.out.mono ?_
  clear C
  rintro e w3 ⟨⟨ov, rfl, HO⟩, hb3⟩
  have B3 := Lib.hid (B2.out.trans (hb3.mono B2.out.size))
  have BX3 := Lib.hid (BX2.out.ext hb3)
  have hpx3 : px < w2.heap.size := BX2.out.lt
  clear hb3 BX2
  obtain ⟨c0, c1, c2, c3, c4⟩ := BX3.out.cells
  have C := Lib.hid (wsearch_any x (.slice ao l.length cap) l w3 (by omega) (HV.out.1.ext B3.out) hok.out.strict)
  go_wp2_with fail
  refine C.out.mono ?_
  clear C
  rintro e w4 ⟨rfl, hb4⟩
  have HF := found_iff (w := x) hok.out.strict
  have hpl : placeW l x ≤ l.length := (List.takeWhile_sublist _).length_le
  rw [HF]
  have B4 := Lib.hid (B3.out.trans (hb4.mono B3.out.size))
  have BX4 := Lib.hid (BX3.out.ext hb4)
  have HO4 := Lib.hid (HO.out.ext hb4)
  clear hb4 c0 c1 c2 c3 c4 BX3 HF HO
  obtain ⟨k, hk⟩ : ∃ k, placeW l x = k := ⟨_, rfl⟩
  rw [hk] at HD hpl ⊢
  obtain ⟨c0, c1, c2, c3, c4⟩ := BX4.out.cells
  obtain ⟨oo, oc, rfl⟩ := HO4.out.shape
  have HFI := Lib.hid (found_iff (w := x) hok.out.strict)
  rw [hk] at HFI
  have HOw := Lib.hid (WOwn.low HO4.out B2.out.size)
  cases hf : (findW x.name l).isSome with
  | true =>
    have HY : Hid (setLk l x = (⟨0, none⟩, l.take k ++ x :: l.drop (k + 1))) := by show _ = _; rw [HD.out, hf, if_pos rfl]
    have hkl : k < l.length := by
      have h0 := HFI.out
      rw [hf] at h0
      have h1 := of_decide_eq_true h0
      rcases Nat.lt_or_ge k l.length with h | h
      · exact h
      · rw [List.drop_eq_nil_of_le h] at h1; cases h1
    rcases HO4.out.2 with ⟨_, h0⟩ | ⟨g, cap2, cur, e0, hgb, hg, hn, hc, hs, ht⟩
    · omega
    obtain ⟨rfl, rfl⟩ : oo = some ⟨g, 0, none⟩ ∧ oc = cap2 := by injection e0 with a _ b; exact ⟨a, b⟩
    have r0 : (w4.cell? ⟨g, k * 5, none⟩).isSome = true := by rw [Lib.cell_of_heap hg, Array.getElem?_eq_getElem (by omega)]; rfl
    obtain ⟨u0, r0⟩ := Option.isSome_iff_exists.1 r0
    have r1 : (w4.cell? ⟨g, k * 5 + 1, none⟩).isSome = true := by rw [Lib.cell_of_heap hg, Array.getElem?_eq_getElem (by omega)]; rfl
    obtain ⟨u1, r1⟩ := Option.isSome_iff_exists.1 r1
    have r2 : (w4.cell? ⟨g, k * 5 + 2, none⟩).isSome = true := by rw [Lib.cell_of_heap hg, Array.getElem?_eq_getElem (by omega)]; rfl
    obtain ⟨u2, r2⟩ := Option.isSome_iff_exists.1 r2
    have r3 : (w4.cell? ⟨g, k * 5 + 3, none⟩).isSome = true := by rw [Lib.cell_of_heap hg, Array.getElem?_eq_getElem (by omega)]; rfl
    obtain ⟨u3, r3⟩ := Option.isSome_iff_exists.1 r3
    have r4 : (w4.cell? ⟨g, k * 5 + 4, none⟩).isSome = true := by rw [Lib.cell_of_heap hg, Array.getElem?_eq_getElem (by omega)]; rfl
    obtain ⟨u4, r4⟩ := Option.isSome_iff_exists.1 r4
    have z0 : w4.frozen? ⟨g, k * 5, none⟩ = false := Lib.frozen_of_heap hg _
    have z1 : w4.frozen? ⟨g, k * 5 + 1, none⟩ = false := Lib.frozen_of_heap hg _
    have z2 : w4.frozen? ⟨g, k * 5 + 2, none⟩ = false := Lib.frozen_of_heap hg _
    have z3 : w4.frozen? ⟨g, k * 5 + 3, none⟩ = false := Lib.frozen_of_heap hg _
    have z4 : w4.frozen? ⟨g, k * 5 + 4, none⟩ = false := Lib.frozen_of_heap hg _
    have OV := Lib.hid (WOwn.over x hgb hg hn hc hs ht hkl)
    have hlen : (l.take k ++ x :: l.drop (k + 1)).length = l.length := by simp; omega
    have HLE := Lib.hid hlen
    clear hg hs ht hn hc e0 hlen hf HD HFI
    go_wp2_with fail
    go_ret2
    have ov := OV.out
    unfold rowPut at ov
    rw [HY.out]
    refine ⟨⟨_, _, rfl, .inl ⟨rfl, rfl⟩, ?_⟩, B4.out.trans (ov.2.mono B2.out.size)⟩
    exact WOwn.low ov.1 B2.out.size
  | false =>
    have HY := HD.out
    rw [hf, if_neg (by simp)] at HY
    by_cases h20 : 20 ≤ l.length
    · rw [if_pos h20] at HY
      have HY2 := Lib.hid HY
      have cF : w4.cell? ⟨8, 0, none⟩ = some (sentV E 7) := (HE.out.ext B4.out).1.err 7 (by decide)
      clear HY HD hf
      go_wp2_with fail
      go_quiet (fail)
      go_wp2_with fail
      go_ret2
      rw [HY2.out]
      exact LSetPost.none (IsErr.sentW (by decide)) (B4.out.trans ((below_drewN _ _ _).mono B4.out.size))
    · rw [if_neg h20] at HY
      have HY2 := Lib.hid HY
      clear HY HD hf HFI
      have hba : Below w4.heap.size w4 (w4.alloc (.cells (encW x).toArray 60)) := (Below.refl _ _).alloc (Nat.le_refl _) _
      have hga := heap_alloc_new w4 (.cells (encW x).toArray 60)
      have hlt : ∀ q, (Value.slice oo l.length oc).ownBlock = some q → q < w4.heap.size := fun q hq => (World.ownsRow.lt HO4.out q hq).2
      have C := Lib.hid (insertWants_any x l w.heap.size w4.heap.size k (.slice oo l.length oc) (w4.alloc (.cells (encW x).toArray 60)) hpl (by omega) (HOw.out.ext hba) hga (fun e => by have := hlt _ e.symm; omega) (by simp; have := B4.out.size; omega))
      obtain ⟨wa, hwa⟩ : ∃ wa, w4.alloc (.cells (encW x).toArray 60) = wa := ⟨_, rfl⟩
      rw [hwa] at C hba
      have HWA := Lib.hid hwa
      have HBA := Lib.hid hba
      clear hga hlt hwa hba
      go_wp2_with fail
      rw [HWA.out]
      refine C.out.mono ?_
      rintro e w5 ⟨⟨o2, rfl, H2⟩, hb5⟩
      go_wp2_with fail
      go_ret2
      rw [HY2.out]
      exact ⟨⟨_, _, rfl, .inl ⟨rfl, rfl⟩, H2⟩, (B4.out.trans (HBA.out.mono B4.out.size)).trans hb5⟩
end Go.Proofs.YtcjjbpoaojjojaaGreatDoor
