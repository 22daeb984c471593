/- Packs, in plain Lean. pack.Make, pack.Sum: contracts. pack.Sum: the contract. -/
import Derived.Test.YtomceddfbfpjjaaGreatDoorKTreed
import Derived.Test.YtomceddfbfpjjaaGreatDoorKPlainly
import Derived.Test.YtomceddfbfpjjaaGreatDoorKTexts
import Derived.Test.YtomceddfbfpjjaaGreatDoorKSummed
import Derived.Test.YtomceddfbfpjjaaGreatDoorKErrors
namespace Go.Proofs.YtomceddfbfpjjaaGreatDoor
open Go

def modeB (r : Bool) : UInt8 := if r then 120 else 102
/-- A file, as a pack has it. -/
def packOne (f : FileB) : List UInt8 := bl f.path ++ ([32, modeB f.run, 32] ++ (Lib.decDigits f.text.size ++ (10 :: (bl f.text ++ [10]))))
/-- Files, as a pack has them. -/
def packL (l : List FileB) : List UInt8 := l.flatMap packOne
theorem packOne_len (f : FileB) (hp : f.path.size ≤ 30000) (ht : f.text.size ≤ 100000) : (packOne f).length ≤ 132000 := by
  have h1 := decDigits_len f.text.size (by omega)
  unfold packOne
  simp only [List.length_append, List.length_cons, List.length_nil, bl_length]
  omega
theorem packL_snoc (l : List FileB) (f : FileB) : packL (l ++ [f]) = packL l ++ packOne f := by simp [packL]
theorem packL_take {l : List FileB} {k : Nat} (h : k < l.length) : packL (l.take (k + 1)) = packL (l.take k) ++ packOne l[k] := by
  rw [List.take_add_one, List.getElem?_eq_getElem h]; exact packL_snoc _ _
theorem packL_cons (f : FileB) (l : List FileB) : packL (f :: l) = packOne f ++ packL l := by simp [packL]
theorem packL_len : ∀ (l : List FileB), (∀ f ∈ l, f.path.size ≤ 30000 ∧ f.text.size ≤ 100000) → (packL l).length ≤ 132000 * l.length
  | [], _ => Nat.zero_le _
  | f :: l, h => by
    have h1 := packOne_len f (h f (List.mem_cons_self ..)).1 (h f (List.mem_cons_self ..)).2
    have h2 := packL_len l (fun g hg => h g (List.mem_cons_of_mem _ hg))
    rw [packL_cons, List.length_append, List.length_cons]
    omega
end Go.Proofs.YtomceddfbfpjjaaGreatDoor

namespace Go.Proofs.YtomceddfbfpjjaaGreatDoor
open Go Go.RowKit

/-- The environment of packs. -/
def KEnv (E : Nat → Addr) (w : World) : Prop := FEnv E w ∧ PowTab w
theorem KEnv.ext {E : Nat → Addr} {w w' : World} (h : KEnv E w) (hb : Below w.heap.size w w') : KEnv E w' := ⟨h.1.ext hb, h.2.ext hb⟩
/-- A tree's pack: empty, if the tree is not right. -/
def packT (l : List FileB) : List UInt8 := if (treeEr l).code = 0 then packL l else []
def PackPost (E : Nat → Addr) (l : List FileB) (w : World) (e : Ending) (w' : World) : Prop :=
  (∃ (t : ByteArray) (ev : Value), e = .returned (.tuple #[.string t, ev]) ∧ Hid (bl t = packT l) ∧ Hid (IsErr E w' ev (treeEr l))) ∧ Below w.heap.size w w'
theorem packT_len (l : List FileB) (h : ∀ f ∈ l, SmallF f) : (packT l).length ≤ 132000 * l.length := by
  unfold packT
  split
  · exact packL_len l h
  · exact Nat.zero_le _

theorem packs_bl (f : FileB) (t m : ByteArray) (r : Bool) (hr : f.run = r) (hm : bl m = [modeB r]) (ht : bl t = Lib.decDigits f.text.size) :
    bl (f.path ++ { data := #[32] } ++ m ++ { data := #[32] } ++ t ++ { data := #[10] } ++ f.text ++ { data := #[10] }) = packOne f := by
  simp only [bl_append, hm, ht, packOne, hr]
  rw [show bl { data := #[32] } = [32] from rfl, show bl { data := #[10] } = [10] from rfl]
  simp
theorem packs_len (acc : List UInt8) (f : FileB) (t m : ByteArray) (k : Nat) (hlen : acc.length ≤ 132000 * k) (hts : t.size ≤ 21) (hm : m.size = 1) (s1 : f.path.size ≤ 30000) (s2 : f.text.size ≤ 100000) (hk : k ≤ 10000) :
    (Lib.byteCells acc).length + (f.path ++ { data := #[32] } ++ m ++ { data := #[32] } ++ t ++ { data := #[10] } ++ f.text ++ { data := #[10] }).size ≤ 140737488355328 := by
  rw [Lib.byteCells_length, ← bl_length]
  simp only [bl_append, List.length_append, bl_length]
  have e1 : (bl { data := #[32] }).length = 1 := rfl
  have e2 : (bl { data := #[10] }).length = 1 := rfl
  rw [bl_length] at e1 e2
  omega

set_option maxHeartbeats 4000000 in
set_option maxRecDepth 100000 in
theorem packMake_any {E : Nat → Addr} (v : Value) (l : List FileB) (w : World) (hv : FRow w v l) (hl : l.length ≤ 10000) (hS : ∀ f ∈ l, SmallF f) (hE : KEnv E w) :
    Calls Tryz.prog 53 #[v] w (PackPost E l w) := by
  have C := Lib.hid (treeCheck_any v l w hv hl hS hE.1)
  obtain ⟨ao, cap, rfl, h1, h2, H3⟩ := hv
  have HM := Lib.hid H3
  have HSM := Lib.hid hS
  have HE := Lib.hid hE
  clear H3 hS hE
  go_enter Tryz.func53, Tryz.ntmps53
  go_wp2_with fail
  refine C.out.mono ?_
  clear C
  rintro e w1 ⟨⟨ev, rfl, HEV⟩, hb1⟩
  by_cases hc : (treeEr l).code = 0
  · have HPT : Hid (packT l = packL l) := by show _ = _; unfold packT; rw [if_pos hc]
    have hnil : ev = .nilIface := by
      have h := HEV.out
      revert h hc
      generalize treeEr l = er
      intro hc h
      obtain ⟨c, a⟩ := er
      obtain rfl : c = 0 := hc
      exact h.nil_inv
    subst hnil
    clear hc
    go_wp2_with fail
    have hI := isB_new w1 w1.heap.size (Nat.le_refl _)
    have hb0 : Below w1.heap.size w1 (w1.alloc (.cells #[.pointer none, .slice none 0 0] 152)) := (Below.refl _ _).alloc (Nat.le_refl _) _
    generalize w1.alloc (.cells #[.pointer none, .slice none 0 0] 152) = W at hI hb0 ⊢
    go_loopw [16] (fun i wr => ∃ (k : Nat) (acc : List UInt8), k ≤ l.length ∧ i = .int .i64 k ∧ Hid (acc = packL (l.take k)) ∧ acc.length ≤ 132000 * k ∧ IsB w1.heap.size w1.heap.size (Lib.byteCells acc) wr ∧ Below w1.heap.size w1 wr) (fun i _ => l.length - (intOf i).toNat)
    case atStart => exact ⟨0, [], Nat.zero_le _, rfl, rfl, Nat.zero_le _, hI, hb0⟩
    case round =>
      obtain ⟨k, acc, hk, rfl, HAC, hlen, hB, hb⟩ := hrel
      by_cases hlt : k < l.length
      · obtain ⟨b, off, rfl, hbl, hcell⟩ := HM.out k hlt
        obtain ⟨q0, q1, q2⟩ := hcell k hlt
        have hbw := hb1.trans (hb.mono hb1.size)
        rw [← hbw.cell (p := ⟨b, off + k * 3, none⟩) hbl] at q0
        rw [← hbw.cell (p := ⟨b, off + k * 3 + 1, none⟩) hbl] at q1
        rw [← hbw.cell (p := ⟨b, off + k * 3 + 2, none⟩) hbl] at q2
        have sz := HSM.out l[k] (List.getElem_mem hlt)
        have HTK : Hid (acc ++ packOne l[k] = packL (l.take (k + 1))) := by show _ = _; rw [packL_take hlt, HAC.out]
        have hpl : (packOne l[k]).length ≤ 132000 := packOne_len _ sz.1 sz.2
        clear hcell HAC
        obtain ⟨f, hf⟩ : ∃ f, l[k] = f := ⟨_, rfl⟩
        rw [hf] at q0 q1 q2 sz HTK hpl
        clear hf
        obtain ⟨pf, hpf⟩ : ∃ pf, wr.heap.size = pf := ⟨_, rfl⟩
        obtain ⟨wa, hwa⟩ : ∃ wa, wr.alloc (.cells #[.string f.path, .bool f.run, .string f.text] 68) = wa := ⟨_, rfl⟩
        have hal : Below wr.heap.size wr wa := by rw [← hwa]; exact (Below.refl _ _).alloc (Nat.le_refl _) _
        have hA : wa.heap[pf]? = some (.cells #[.string f.path, .bool f.run, .string f.text] 68 (0, 0)) := by rw [← hwa, ← hpf]; exact heap_alloc_new _ _
        have hba : Below w1.heap.size w1 wa := hb.trans (hal.mono hb.size)
        have hBa : IsB w1.heap.size w1.heap.size (Lib.byteCells acc) wa := isB_below hal hB
        have hpfl : pf < wa.heap.size := (Array.getElem?_eq_some_iff.1 hA).1
        have a0 : wa.cell? ⟨pf, 0, none⟩ = some (.string f.path) := by rw [Lib.cell_of_heap hA]; rfl
        have a1 : wa.cell? ⟨pf, 1, none⟩ = some (.bool f.run) := by rw [Lib.cell_of_heap hA]; rfl
        have a2 : wa.cell? ⟨pf, 2, none⟩ = some (.string f.text) := by rw [Lib.cell_of_heap hA]; rfl
        obtain ⟨r, hr⟩ : ∃ r, f.run = r := ⟨_, rfl⟩
        rw [hr] at q1 a1 hwa
        have HR := Lib.hid hr
        clear hr
        have HPF := Lib.hid hpf
        have HWA := Lib.hid hwa
        have HT := Lib.hid ((HE.out.ext (hb1.trans (hba.mono hb1.size))).2)
        have hAP : Apart w1.heap.size pf wa := apart_new hB hal (Nat.le_of_eq hpf) hpfl
        have HHA := Lib.hid hA
        have hpw : w1.heap.size ≤ pf := by rw [← hpf]; exact hb.size
        clear hal hA hpf hwa hb hB hbw
        have sz2 := sz.2
        have sz1 := sz.1
        have hkk : k ≤ 10000 := by omega
        clear sz
        cases r
        all_goals
          go_wp2_with fail
          rw [HWA.out, HPF.out]
          have b0 : wa.drew.cell? ⟨pf, 0, none⟩ = some (.string f.path) := a0
          have b2 : wa.drew.cell? ⟨pf, 2, none⟩ = some (.string f.text) := a2
          have hBd : IsB w1.heap.size w1.heap.size (Lib.byteCells acc) wa.drew := hBa
          have hAd : Apart w1.heap.size pf wa.drew := hAP
          have hTd : PowTab wa.drew := HT.out
          have n1 : ¬ 9223372036854775807 < f.path.size + 1 := by omega
          have n2 : ¬ 9223372036854775807 < f.path.size + 1 + 1 := by omega
          have n3 : ¬ 9223372036854775807 < f.path.size + 1 + 1 + 1 := by omega
          go_region_held3 (fun W : World => W.cell? ⟨pf, 0, none⟩ = some (.string f.path) ∧ W.cell? ⟨pf, 2, none⟩ = some (.string f.text)) (first | exact ⟨x0, x2⟩ | exact ⟨y0, y2⟩ | exact ⟨b0, b2⟩)
            (first
              | (go_at_call 84; refine (itoa_any f.text.size (by omega) _ hTd).mono ?_; rintro e w2 ⟨t, rfl, HTX, hts, hb2⟩; have n4 : ¬ 9223372036854775807 < f.path.size + 1 + 1 + 1 + t.size := by omega
                 have n5 : ¬ 9223372036854775807 < f.path.size + 1 + 1 + 1 + t.size + 1 := by omega
                 have n6 : ¬ 9223372036854775807 < f.path.size + 1 + 1 + 1 + t.size + 1 + f.text.size := by omega
                 have n7 : ¬ 9223372036854775807 < f.path.size + 1 + 1 + 1 + t.size + 1 + f.text.size + 1 := by omega
                 have y0 := (hb2.cell (p := ⟨pf, 0, none⟩) hpfl).trans b0; have y2 := (hb2.cell (p := ⟨pf, 2, none⟩) hpfl).trans b2)
              | (go_at_call 83; refine (writeString_keep _ _ _ _ _ (isB_below hb2 hBd) (packs_len acc f t _ k hlen hts rfl sz1 sz2 hkk) (Nat.le_trans hba.size hb2.size) pf (hAd.ext hBd hb2)).mono ?_; rintro e w3 ⟨rfl, hB3, hb3, hk3⟩; have x0 := (Lib.cell_of_heap (hk3.trans ((hb2.block pf hpfl).trans HHA.out)) 0); have x2 := (Lib.cell_of_heap (hk3.trans ((hb2.block pf hpfl).trans HHA.out)) 2)))
          clear n1 n2 n3 n4 n5 n6 n7 x0 x2 y0 y2 hTd
          try clear hHeld
          rw [strCells_bl, packs_bl f t _ _ HR.out rfl HTX.out, ← byteCells_append] at hB3
          have hbf : Below w1.heap.size w1 w3 := (hba.trans (below_drewN _ _ 1)).trans ((hb2.mono hba.size).trans hb3)
          have hlen2 : (acc ++ packOne f).length ≤ 132000 * (k + 1) := by rw [List.length_append]; omega
          have HB3 := Lib.hid hB3
          have HBF := Lib.hid hbf
          have HL2 := Lib.hid hlen2
          clear hB3 hbf hlen2 hb2 hb3 hk3 HTX b0 b2 hBd hAd
          go_wp2_with fail
          go_roundw
          case rel => exact ⟨k + 1, acc ++ packOne f, by omega, by go_num, HTK, HL2.out, .inr HB3.out, HBF.out⟩
          case measure => simp [intOf]; omega
      · obtain rfl : k = l.length := by omega
        have HE2 : Hid (acc = packL l) := by show _ = _; rw [HAC.out, List.take_length]
        clear HAC
        go_wp2_with fail
        refine (Tryz.Builder_String_any _ _ acc _ hB hb.size).mono ?_
        rintro e w' ⟨rfl, hb'⟩
        have hfin : Below w.heap.size w w' := hb1.trans ((hb.trans hb').mono hb1.size)
        have HER : Hid (IsErr E w' .nilIface (treeEr l)) := HEV.out.ext ((hb.trans hb').mono (Nat.le_refl _))
        clear hb' hB hb
        go_wp2_with fail
        go_ret2
        exact ⟨⟨⟨acc.toArray⟩, _, rfl, by show _ = _; rw [HPT.out]; exact HE2.out, HER⟩, hfin⟩
  · have HPT : Hid (packT l = []) := by show _ = _; unfold packT; rw [if_neg hc]
    obtain ⟨t, x, rfl⟩ := HEV.out.some_inv hc
    clear hc
    go_wp2_with fail
    go_ret2
    exact ⟨⟨_, _, rfl, by show _ = _; rw [HPT.out]; rfl, HEV⟩, hb1⟩
end Go.Proofs.YtomceddfbfpjjaaGreatDoor

namespace Go.Proofs.YtomceddfbfpjjaaGreatDoor
open Go Go.RowKit

def PSumPost (E : Nat → Addr) (l : List FileB) (w : World) (e : Ending) (w' : World) : Prop :=
  (∃ ev : Value, e = .returned (.tuple #[.int .i64 (sumL (packT l) : Nat), ev]) ∧ Hid (IsErr E w' ev (treeEr l))) ∧ Below w.heap.size w w'

set_option maxRecDepth 100000 in
theorem packSum_any {E : Nat → Addr} (v : Value) (l : List FileB) (w : World) (hv : FRow w v l) (hl : l.length ≤ 10000) (hS : ∀ f ∈ l, SmallF f) (hE : KEnv E w) :
    Calls Tryz.prog 25 #[v] w (PSumPost E l w) := by
  have C := Lib.hid (packMake_any v l w hv hl hS hE)
  have HL := packT_len l hS
  go_enter Tryz.func25, Tryz.ntmps25
  go_wp2_with fail
  refine C.out.mono ?_
  clear C
  rintro e w1 ⟨⟨t, ev, rfl, HT, HR⟩, hb⟩
  have ht : t.size ≤ 1320000000 := by rw [← bl_length, HT.out]; omega
  go_wp2_with fail
  refine (sumOf_any t w1 (by omega)).mono ?_
  rintro e w2 ⟨rfl, rfl⟩
  go_wp2_with fail
  go_ret2
  exact ⟨⟨ev, by rw [HT.out]; rfl, HR⟩, hb⟩
end Go.Proofs.YtomceddfbfpjjaaGreatDoor
