/- Packs, in plain Lean. pack.Make, pack.Sum: contracts. pack.Sum: the contract. What a pack tells, in plain Lean. What is packed is read, what is read is packed so; what is cut short. A pack is read file by file, in plain Lean. -/
import Derived.Test.YtcjjbpoaojjojaaGreatDoorJToldEtc
import Derived.Test.YtcjjbpoaojjojaaGreatDoorJPlainly
import Derived.Test.YtcjjbpoaojjojaaGreatDoorJRowedEtc
import Derived.Test.YtcjjbpoaojjojaaGreatDoorJSummed
import Derived.Test.YtcjjbpoaojjojaaGreatDoorJErrors
namespace Go.Proofs.YtcjjbpoaojjojaaGreatDoor
open Go

def modeB (r : Bool) : UInt8 := if r then 120 else 102
/-- A file, as a pack has it. -/
def packOne (f : FileB) : List UInt8 := bl f.path ++ ([32, modeB f.run, 32] ++ (Lib.decDigits f.text.size ++ (10 :: (bl f.text ++ [10]))))
/-- Files, as a pack has them. -/
def packL (l : List FileB) : List UInt8 := l.flatMap packOne
theorem packOne_len (f : FileB) (hp : f.path.size ≤ 30000) (ht : f.text.size ≤ 100000) : (packOne f).length ≤ 132000 := by
  have h1 := decDigits_len f.text.size (by omega)
  unfold packOne
  simp only [List.length_append, List.length_cons, List.length_nil, bl_length]
  omega
theorem packL_snoc (l : List FileB) (f : FileB) : packL (l ++ [f]) = packL l ++ packOne f := by simp [packL]
theorem packL_take {l : List FileB} {k : Nat} (h : k < l.length) : packL (l.take (k + 1)) = packL (l.take k) ++ packOne l[k] := by
  rw [List.take_add_one, List.getElem?_eq_getElem h]; exact packL_snoc _ _
theorem packL_cons (f : FileB) (l : List FileB) : packL (f :: l) = packOne f ++ packL l := by simp [packL]
theorem packL_len : ∀ (l : List FileB), (∀ f ∈ l, f.path.size ≤ 30000 ∧ f.text.size ≤ 100000) → (packL l).length ≤ 132000 * l.length
  | [], _ => Nat.zero_le _
  | f :: l, h => by
    have h1 := packOne_len f (h f (List.mem_cons_self ..)).1 (h f (List.mem_cons_self ..)).2
    have h2 := packL_len l (fun g hg => h g (List.mem_cons_of_mem _ hg))
    rw [packL_cons, List.length_append, List.length_cons]
    omega
end Go.Proofs.YtcjjbpoaojjojaaGreatDoor

namespace Go.Proofs.YtcjjbpoaojjojaaGreatDoor
open Go Go.RowKit

/-- The environment of packs. -/
def KEnv (E : Nat → Addr) (w : World) : Prop := FEnv E w ∧ PowTab w
theorem KEnv.ext {E : Nat → Addr} {w w' : World} (h : KEnv E w) (hb : Below w.heap.size w w') : KEnv E w' := ⟨h.1.ext hb, h.2.ext hb⟩
/-- A tree's pack: empty, if the tree is not right. -/
def packT (l : List FileB) : List UInt8 := if (treeEr l).code = 0 then packL l else []
def PackPost (E : Nat → Addr) (l : List FileB) (w : World) (e : Ending) (w' : World) : Prop :=
  (∃ (t : ByteArray) (ev : Value), e = .returned (.tuple #[.string t, ev]) ∧ Hid (bl t = packT l) ∧ Hid (IsErr E w' ev (treeEr l))) ∧ Below w.heap.size w w'
theorem packT_len (l : List FileB) (h : ∀ f ∈ l, SmallF f) : (packT l).length ≤ 132000 * l.length := by
  unfold packT
  split
  · exact packL_len l h
  · exact Nat.zero_le _

theorem packs_bl (f : FileB) (t m : ByteArray) (r : Bool) (hr : f.run = r) (hm : bl m = [modeB r]) (ht : bl t = Lib.decDigits f.text.size) :
    bl (f.path ++ { data := #[32] } ++ m ++ { data := #[32] } ++ t ++ { data := #[10] } ++ f.text ++ { data := #[10] }) = packOne f := by
  simp only [bl_append, hm, ht, packOne, hr]
  rw [show bl { data := #[32] } = [32] from rfl, show bl { data := #[10] } = [10] from rfl]
  simp
theorem packs_len (acc : List UInt8) (f : FileB) (t m : ByteArray) (k : Nat) (hlen : acc.length ≤ 132000 * k) (hts : t.size ≤ 21) (hm : m.size = 1) (s1 : f.path.size ≤ 30000) (s2 : f.text.size ≤ 100000) (hk : k ≤ 10000) :
    (Lib.byteCells acc).length + (f.path ++ { data := #[32] } ++ m ++ { data := #[32] } ++ t ++ { data := #[10] } ++ f.text ++ { data := #[10] }).size ≤ 140737488355328 := by
  rw [Lib.byteCells_length, ← bl_length]
  simp only [bl_append, List.length_append, bl_length]
  have e1 : (bl { data := #[32] }).length = 1 := rfl
  have e2 : (bl { data := #[10] }).length = 1 := rfl
  rw [bl_length] at e1 e2
  omega

set_option maxHeartbeats 4000000 in
set_option maxRecDepth 100000 in
theorem packMake_any {E : Nat → Addr} (v : Value) (l : List FileB) (w : World) (hv : FRow w v l) (hl : l.length ≤ 10000) (hS : ∀ f ∈ l, SmallF f) (hE : KEnv E w) :
    Calls Tryz.prog 73 #[v] w (PackPost E l w) := by
  have C := Lib.hid (treeCheck_any v l w hv hl hS hE.1)
  obtain ⟨ao, cap, rfl, h1, h2, H3⟩ := hv
  have HM := Lib.hid H3
  have HSM := Lib.hid hS
  have HE := Lib.hid hE
  clear H3 hS hE
  go_enter Tryz.func73, Tryz.ntmps73
  go_wp2_with fail
  refine C.out.mono ?_
  clear C
  rintro e w1 ⟨⟨ev, rfl, HEV⟩, hb1⟩
  by_cases hc : (treeEr l).code = 0
  · have HPT : Hid (packT l = packL l) := by show _ = _; unfold packT; rw [if_pos hc]
    have hnil : ev = .nilIface := by
      have h := HEV.out
      revert h hc
      generalize treeEr l = er
      intro hc h
      obtain ⟨c, a⟩ := er
      obtain rfl : c = 0 := hc
      exact h.nil_inv
    subst hnil
    clear hc
    go_wp2_with fail
    have hI := isB_new w1 w1.heap.size (Nat.le_refl _)
    have hb0 : Below w1.heap.size w1 (w1.alloc (.cells #[.pointer none, .slice none 0 0] 223)) := (Below.refl _ _).alloc (Nat.le_refl _) _
    generalize w1.alloc (.cells #[.pointer none, .slice none 0 0] 223) = W at hI hb0 ⊢
    go_loopw [16] (fun i wr => ∃ (k : Nat) (acc : List UInt8), k ≤ l.length ∧ i = .int .i64 k ∧ Hid (acc = packL (l.take k)) ∧ acc.length ≤ 132000 * k ∧ IsB w1.heap.size w1.heap.size (Lib.byteCells acc) wr ∧ Below w1.heap.size w1 wr) (fun i _ => l.length - (intOf i).toNat)
    case atStart => exact ⟨0, [], Nat.zero_le _, rfl, rfl, Nat.zero_le _, hI, hb0⟩
    case round =>
      obtain ⟨k, acc, hk, rfl, HAC, hlen, hB, hb⟩ := hrel
      by_cases hlt : k < l.length
      · obtain ⟨b, off, rfl, hbl, hcell⟩ := HM.out k hlt
        obtain ⟨q0, q1, q2⟩ := hcell k hlt
        have hbw := hb1.trans (hb.mono hb1.size)
        rw [← hbw.cell (p := ⟨b, off + k * 3, none⟩) hbl] at q0
        rw [← hbw.cell (p := ⟨b, off + k * 3 + 1, none⟩) hbl] at q1
        rw [← hbw.cell (p := ⟨b, off + k * 3 + 2, none⟩) hbl] at q2
        have sz := HSM.out l[k] (List.getElem_mem hlt)
        have HTK : Hid (acc ++ packOne l[k] = packL (l.take (k + 1))) := by show _ = _; rw [packL_take hlt, HAC.out]
        have hpl : (packOne l[k]).length ≤ 132000 := packOne_len _ sz.1 sz.2
        clear hcell HAC
        obtain ⟨f, hf⟩ : ∃ f, l[k] = f := ⟨_, rfl⟩
        rw [hf] at q0 q1 q2 sz HTK hpl
        clear hf
        obtain ⟨pf, hpf⟩ : ∃ pf, wr.heap.size = pf := ⟨_, rfl⟩
        obtain ⟨wa, hwa⟩ : ∃ wa, wr.alloc (.cells #[.string f.path, .bool f.run, .string f.text] 149) = wa := ⟨_, rfl⟩
        have hal : Below wr.heap.size wr wa := by rw [← hwa]; exact (Below.refl _ _).alloc (Nat.le_refl _) _
        have hA : wa.heap[pf]? = some (.cells #[.string f.path, .bool f.run, .string f.text] 149 (0, 0)) := by rw [← hwa, ← hpf]; exact heap_alloc_new _ _
        have hba : Below w1.heap.size w1 wa := hb.trans (hal.mono hb.size)
        have hBa : IsB w1.heap.size w1.heap.size (Lib.byteCells acc) wa := isB_below hal hB
        have hpfl : pf < wa.heap.size := (Array.getElem?_eq_some_iff.1 hA).1
        have a0 : wa.cell? ⟨pf, 0, none⟩ = some (.string f.path) := by rw [Lib.cell_of_heap hA]; rfl
        have a1 : wa.cell? ⟨pf, 1, none⟩ = some (.bool f.run) := by rw [Lib.cell_of_heap hA]; rfl
        have a2 : wa.cell? ⟨pf, 2, none⟩ = some (.string f.text) := by rw [Lib.cell_of_heap hA]; rfl
        obtain ⟨r, hr⟩ : ∃ r, f.run = r := ⟨_, rfl⟩
        rw [hr] at q1 a1 hwa
        have HR := Lib.hid hr
        clear hr
        have HPF := Lib.hid hpf
        have HWA := Lib.hid hwa
        have HT := Lib.hid ((HE.out.ext (hb1.trans (hba.mono hb1.size))).2)
        have hAP : Apart w1.heap.size pf wa := apart_new hB hal (Nat.le_of_eq hpf) hpfl
        have HHA := Lib.hid hA
        have hpw : w1.heap.size ≤ pf := by rw [← hpf]; exact hb.size
        clear hal hA hpf hwa hb hB hbw
        have sz2 := sz.2
        have sz1 := sz.1
        have hkk : k ≤ 10000 := by omega
        clear sz
        cases r
        all_goals
          go_wp2_with fail
          rw [HWA.out, HPF.out]
          have b0 : wa.drew.cell? ⟨pf, 0, none⟩ = some (.string f.path) := a0
          have b2 : wa.drew.cell? ⟨pf, 2, none⟩ = some (.string f.text) := a2
          have hBd : IsB w1.heap.size w1.heap.size (Lib.byteCells acc) wa.drew := hBa
          have hAd : Apart w1.heap.size pf wa.drew := hAP
          have hTd : PowTab wa.drew := HT.out
          have n1 : ¬ 9223372036854775807 < f.path.size + 1 := by omega
          have n2 : ¬ 9223372036854775807 < f.path.size + 1 + 1 := by omega
          have n3 : ¬ 9223372036854775807 < f.path.size + 1 + 1 + 1 := by omega
          go_region_held3 (fun W : World => W.cell? ⟨pf, 0, none⟩ = some (.string f.path) ∧ W.cell? ⟨pf, 2, none⟩ = some (.string f.text)) (first | exact ⟨x0, x2⟩ | exact ⟨y0, y2⟩ | exact ⟨b0, b2⟩)
            (first
              | (go_at_call 147; refine (itoa_any f.text.size (by omega) _ hTd).mono ?_; rintro e w2 ⟨t, rfl, HTX, hts, hb2⟩; have n4 : ¬ 9223372036854775807 < f.path.size + 1 + 1 + 1 + t.size := by omega
                 have n5 : ¬ 9223372036854775807 < f.path.size + 1 + 1 + 1 + t.size + 1 := by omega
                 have n6 : ¬ 9223372036854775807 < f.path.size + 1 + 1 + 1 + t.size + 1 + f.text.size := by omega
                 have n7 : ¬ 9223372036854775807 < f.path.size + 1 + 1 + 1 + t.size + 1 + f.text.size + 1 := by omega
                 have y0 := (hb2.cell (p := ⟨pf, 0, none⟩) hpfl).trans b0; have y2 := (hb2.cell (p := ⟨pf, 2, none⟩) hpfl).trans b2)
              | (go_at_call 146; refine (writeString_keep _ _ _ _ _ (isB_below hb2 hBd) (packs_len acc f t _ k hlen hts rfl sz1 sz2 hkk) (Nat.le_trans hba.size hb2.size) pf (hAd.ext hBd hb2)).mono ?_; rintro e w3 ⟨rfl, hB3, hb3, hk3⟩; have x0 := (Lib.cell_of_heap (hk3.trans ((hb2.block pf hpfl).trans HHA.out)) 0); have x2 := (Lib.cell_of_heap (hk3.trans ((hb2.block pf hpfl).trans HHA.out)) 2)))
          clear n1 n2 n3 n4 n5 n6 n7 x0 x2 y0 y2 hTd
          try clear hHeld
          rw [strCells_bl, packs_bl f t _ _ HR.out rfl HTX.out, ← byteCells_append] at hB3
          have hbf : Below w1.heap.size w1 w3 := (hba.trans (below_drewN _ _ 1)).trans ((hb2.mono hba.size).trans hb3)
          have hlen2 : (acc ++ packOne f).length ≤ 132000 * (k + 1) := by rw [List.length_append]; omega
          have HB3 := Lib.hid hB3
          have HBF := Lib.hid hbf
          have HL2 := Lib.hid hlen2
          clear hB3 hbf hlen2 hb2 hb3 hk3 HTX b0 b2 hBd hAd
          go_wp2_with fail
          go_roundw
          case rel => exact ⟨k + 1, acc ++ packOne f, by omega, by go_num, HTK, HL2.out, .inr HB3.out, HBF.out⟩
          case measure => simp [intOf]; omega
      · obtain rfl : k = l.length := by omega
        have HE2 : Hid (acc = packL l) := by show _ = _; rw [HAC.out, List.take_length]
        clear HAC
        go_wp2_with fail
        refine (Tryz.Builder_String_any _ _ acc _ hB hb.size).mono ?_
        rintro e w' ⟨rfl, hb'⟩
        have hfin : Below w.heap.size w w' := hb1.trans ((hb.trans hb').mono hb1.size)
        have HER : Hid (IsErr E w' .nilIface (treeEr l)) := HEV.out.ext ((hb.trans hb').mono (Nat.le_refl _))
        clear hb' hB hb
        go_wp2_with fail
        go_ret2
        exact ⟨⟨⟨acc.toArray⟩, _, rfl, by show _ = _; rw [HPT.out]; exact HE2.out, HER⟩, hfin⟩
  · have HPT : Hid (packT l = []) := by show _ = _; unfold packT; rw [if_neg hc]
    obtain ⟨t, x, rfl⟩ := HEV.out.some_inv hc
    clear hc
    go_wp2_with fail
    go_ret2
    exact ⟨⟨_, _, rfl, by show _ = _; rw [HPT.out]; rfl, HEV⟩, hb1⟩
end Go.Proofs.YtcjjbpoaojjojaaGreatDoor

namespace Go.Proofs.YtcjjbpoaojjojaaGreatDoor
open Go Go.RowKit

def PSumPost (E : Nat → Addr) (l : List FileB) (w : World) (e : Ending) (w' : World) : Prop :=
  (∃ ev : Value, e = .returned (.tuple #[.int .i64 (sumL (packT l) : Nat), ev]) ∧ Hid (IsErr E w' ev (treeEr l))) ∧ Below w.heap.size w w'

set_option maxRecDepth 100000 in
theorem packSum_any {E : Nat → Addr} (v : Value) (l : List FileB) (w : World) (hv : FRow w v l) (hl : l.length ≤ 10000) (hS : ∀ f ∈ l, SmallF f) (hE : KEnv E w) :
    Calls Tryz.prog 27 #[v] w (PSumPost E l w) := by
  have C := Lib.hid (packMake_any v l w hv hl hS hE)
  have HL := packT_len l hS
  go_enter Tryz.func27, Tryz.ntmps27
  go_wp2_with fail
  refine C.out.mono ?_
  clear C
  rintro e w1 ⟨⟨t, ev, rfl, HT, HR⟩, hb⟩
  have ht : t.size ≤ 1320000000 := by rw [← bl_length, HT.out]; omega
  go_wp2_with fail
  refine (sumOf_any t w1 (by omega)).mono ?_
  rintro e w2 ⟨rfl, rfl⟩
  go_wp2_with fail
  go_ret2
  exact ⟨⟨ev, by rw [HT.out]; rfl, HR⟩, hb⟩
end Go.Proofs.YtcjjbpoaojjojaaGreatDoor

namespace Go.Proofs.YtcjjbpoaojjojaaGreatDoor
open Go

theorem cutB {l sep : List UInt8} (h : (Lib.cut l sep).2.2 = true) : l = (Lib.cut l sep).1 ++ (sep ++ (Lib.cut l sep).2.1) := by
  rcases Lib.index_spec l sep with ⟨h1, _⟩ | ⟨i, h1, _, h3, _⟩
  · unfold Lib.cut at h; rw [h1] at h; simp at h
  · obtain ⟨r, hr⟩ := List.isPrefixOf_iff_prefix.1 h3
    have e : Lib.cut l sep = (l.take i, l.drop (i + sep.length), true) := by
      unfold Lib.cut
      rw [h1, if_pos (by omega)]
      simp
    rw [e]
    show l = l.take i ++ (sep ++ l.drop (i + sep.length))
    have : l.drop (i + sep.length) = r := by rw [← List.drop_drop, ← hr, List.drop_left]
    rw [this, hr, List.take_append_drop]

def mkF (p : List UInt8) (r : Bool) (t : List UInt8) : FileB := ⟨⟨p.toArray⟩, r, ⟨t.toArray⟩⟩
theorem mkF_bl (a b : ByteArray) (r : Bool) : mkF (bl a) r (bl b) = ⟨a, r, b⟩ := by
  unfold mkF
  rw [show (⟨(bl a).toArray⟩ : ByteArray) = a from bl_inj rfl, show (⟨(bl b).toArray⟩ : ByteArray) = b from bl_inj rfl]
/-- The first line of a file: its path, whether it may be run, how long its text is. -/
def headW : List (List UInt8) → Option (List UInt8 × Bool × Nat)
  | [p, m, d] => if m = [102] ∨ m = [120] then (numOf d 6).map (fun n => (p, m == [120], n)) else none
  | _ => none
def headL (l : List UInt8) : Option (List UInt8 × Bool × Nat) := headW (cutL 32 l)
def bodyL (b : List UInt8) : Option (List UInt8 × Bool × Nat) → Option (FileB × List UInt8)
  | some (p, r, n) => if b[n]? = some 10 then some (mkF p r (b.take n), b.drop (n + 1)) else none
  | none => none
/-- The file at the beginning, and what stands behind it. -/
def pieceL (l : List UInt8) : Option (FileB × List UInt8) := if (Lib.cut l [10]).2.2 = true then bodyL (Lib.cut l [10]).2.1 (headL (Lib.cut l [10]).1) else none
def piecesL : Nat → List UInt8 → List FileB × Bool
  | _, [] => ([], true)
  | 0, _ :: _ => ([], false)
  | f + 1, c :: l => match pieceL (c :: l) with
    | none => ([], false)
    | some p => (p.1 :: (piecesL f p.2).1, (piecesL f p.2).2)
def allL (s : List UInt8) : List FileB × Bool := piecesL s.length s
/-- What is wrong with a pack. -/
def readEr (s : List UInt8) : Er := if 20000 < s.length then ⟨2, none⟩ else if (allL s).2 = true then treeEr (allL s).1 else ⟨1, some ((allL s).1.length : Int)⟩
def readT (s : List UInt8) : List FileB := if (readEr s).code = 0 then (allL s).1 else []

theorem headW_some {w : List (List UInt8)} {p : List UInt8} {r : Bool} {n : Nat} (h : headW w = some (p, r, n)) : w = [p, [modeB r], Lib.decDigits n] ∧ (Lib.decDigits n).length ≤ 6 := by
  unfold headW at h
  split at h
  · rename_i p' m d
    split at h
    · rename_i hm
      cases hd : numOf d 6 with
      | none => rw [hd] at h; cases h
      | some n' =>
        rw [hd] at h
        simp only [Option.map_some, Option.some.injEq, Prod.mk.injEq] at h
        obtain ⟨rfl, hr, rfl⟩ := h
        obtain ⟨h1, h2⟩ := numOf_some hd
        subst h1
        refine ⟨?_, h2⟩
        rcases hm with rfl | rfl
        · obtain rfl : r = false := by rw [← hr]; decide
          rfl
        · obtain rfl : r = true := by rw [← hr]; decide
          rfl
    · cases h
  · cases h
/-- The first line. -/
def lineL (p : List UInt8) (r : Bool) (n : Nat) : List UInt8 := p ++ 32 :: ([modeB r] ++ 32 :: Lib.decDigits n)
theorem packOne_line (f : FileB) : packOne f = lineL (bl f.path) f.run f.text.size ++ 10 :: (bl f.text ++ [10]) := by
  unfold packOne lineL; simp
theorem headL_some {l : List UInt8} {p : List UInt8} {r : Bool} {n : Nat} (h : headL l = some (p, r, n)) : l = lineL p r n ∧ (Lib.decDigits n).length ≤ 6 := by
  obtain ⟨h1, h2⟩ := headW_some h
  refine ⟨?_, h2⟩
  have := cutL_join 32 l
  rw [h1, join_cons, join_cons] at this
  rw [← this]
  unfold lineL
  simp
theorem pieceL_inv {l r : List UInt8} {f : FileB} (h : pieceL l = some (f, r)) : l = packOne f ++ r ∧ (Lib.decDigits f.text.size).length ≤ 6 := by
  unfold pieceL at h
  split at h
  · rename_i hc
    have he := cutB hc
    cases hh : headL (Lib.cut l [10]).1 with
    | none => rw [hh] at h; cases h
    | some q =>
      obtain ⟨p, m, n⟩ := q
      rw [hh] at h
      obtain ⟨h1, h2⟩ := headL_some hh
      unfold bodyL at h
      simp only at h
      split at h
      · rename_i hx
        injection h with h
        injection h with hf hr
        generalize (Lib.cut l [10]).2.1 = b at *
        have hlt : n < b.length := (List.getElem?_eq_some_iff.1 hx).1
        have hget : b[n] = 10 := (List.getElem?_eq_some_iff.1 hx).2
        have hts : f.text.size = n := by
          rw [← hf, ← bl_length]
          show (bl ⟨(b.take n).toArray⟩).length = n
          rw [bl_mk, List.length_take]; omega
        refine ⟨?_, by rw [hts]; exact h2⟩
        rw [packOne_line, hts]
        have e1 : bl f.path = p := by rw [← hf]; rfl
        have e2 : f.run = m := by rw [← hf]; rfl
        have e3 : bl f.text = b.take n := by rw [← hf]; rfl
        rw [e1, e2, e3, ← hr, he, h1, List.append_assoc]
        congr 1
        show 10 :: _ = 10 :: _
        congr 1
        conv => lhs; rw [← List.take_append_drop n b]
        rw [List.drop_eq_getElem_cons hlt, hget]
        show List.take n b ++ _ = (List.take n b ++ [10]) ++ _
        rw [List.append_assoc]; rfl
      · cases h
  · cases h
theorem packOne_pos (f : FileB) : 0 < (packOne f).length := by unfold packOne; simp only [List.length_append, List.length_cons]; omega
theorem pieceL_lt {l r : List UInt8} {f : FileB} (h : pieceL l = some (f, r)) : r.length < l.length := by
  have := (pieceL_inv h).1
  have h2 := packOne_pos f
  rw [this, List.length_append]; omega
theorem piecesL_nil (m : Nat) : piecesL m [] = ([], true) := by cases m <;> rfl
theorem piecesL_some {m : Nat} {l r : List UInt8} {f : FileB} (h : pieceL l = some (f, r)) (hm : l.length ≤ m) : ∃ m', r.length ≤ m' ∧ piecesL m l = (f :: (piecesL m' r).1, (piecesL m' r).2) := by
  have hlt := pieceL_lt h
  cases l with
  | nil => simp at hlt
  | cons c l =>
    cases m with
    | zero => simp at hm
    | succ m =>
      refine ⟨m, by omega, ?_⟩
      show (match pieceL (c :: l) with | none => _ | some p => _) = _
      rw [h]
theorem piecesL_none {m : Nat} {l : List UInt8} (h : pieceL l = none) (hl : l ≠ []) : piecesL m l = ([], false) := by
  cases l with
  | nil => exact absurd rfl hl
  | cons c l =>
    cases m with
    | zero => rfl
    | succ m =>
      show (match pieceL (c :: l) with | none => _ | some p => _) = _
      rw [h]
end Go.Proofs.YtcjjbpoaojjojaaGreatDoor

namespace Go.Proofs.YtcjjbpoaojjojaaGreatDoor
open Go

theorem fileE_zero {ahead : List FileB} {f : FileB} (h : fileE ahead f = 0) : partsE (bl f.path) = 0 ∧ f.text.size ≤ 4000 := by
  unfold fileE at h
  split at h
  · exact absurd h (by assumption)
  · rename_i h1
    split at h
    · cases h
    · exact ⟨by simpa using h1, by omega⟩
theorem filesE_none : ∀ (l : List FileB) (ahead : List FileB) (i : Nat), filesE ahead i l = none → ∀ f ∈ l, partsE (bl f.path) = 0 ∧ f.text.size ≤ 4000
  | [], _, _, _ => fun f hf => by cases hf
  | f :: l, ahead, i, h => by
    unfold filesE at h
    split at h
    · rename_i h0
      intro g hg
      rcases List.mem_cons.1 hg with rfl | hg
      · exact fileE_zero h0
      · exact filesE_none l _ _ h g hg
    · cases h
theorem filesE_some : ∀ (l : List FileB) (ahead : List FileB) (i : Nat) (p : Nat × Nat), filesE ahead i l = some p → p.2 ≠ 0
  | [], _, _, _, h => by cases h
  | f :: l, ahead, i, p, h => by
    unfold filesE at h
    split at h
    · exact filesE_some l _ _ p h
    · rename_i h0
      injection h with h
      rw [← h]; exact h0
/-- A right tree. -/
theorem treeEr_zero {l : List FileB} (h : (treeEr l).code = 0) : treeEr l = ⟨0, none⟩ ∧ l.length ≤ 30 ∧ allText l ≤ 12000 ∧ ∀ f ∈ l, partsE (bl f.path) = 0 ∧ f.text.size ≤ 4000 := by
  unfold treeEr at h ⊢
  split at h
  · cases h
  · rename_i h30
    rw [if_neg h30]
    cases hf : filesE [] 0 l with
    | some p =>
      rw [hf] at h
      exact absurd h (filesE_some l [] 0 p hf)
    | none =>
      rw [hf] at h
      simp only at h ⊢
      split at h
      · cases h
      · rename_i ha
        rw [if_neg ha]
        exact ⟨rfl, by omega, by omega, filesE_none l [] 0 hf⟩

theorem join_length (d : UInt8) (m : Nat) : ∀ (w : List (List UInt8)), (∀ x ∈ w, x.length ≤ m) → ([d].intercalate w).length ≤ (m + 1) * w.length
  | [], _ => by simp [List.intercalate]
  | [x], h => by
    have := h x (by simp)
    simp [List.intercalate]; omega
  | x :: y :: r, h => by
    have h1 := h x (by simp)
    have h2 := join_length d m (y :: r) (fun z hz => h z (List.mem_cons_of_mem _ hz))
    rw [join_cons, List.length_append, List.length_cons, List.length_cons, Nat.mul_succ]
    omega
theorem partB_len {x : List UInt8} (h : partB x = true) : x.length ≤ 12 := by
  unfold partB at h
  simp only [Bool.and_eq_true] at h
  exact of_decide_eq_true h.1.1.1.2
theorem path_len {s : List UInt8} (h : partsE s = 0) : s.length ≤ 78 := by
  have h1 := join_length 47 12 (cutL 47 s) (fun x hx => partB_len (List.all_eq_true.1 (partsE_ok h).1 x hx))
  rw [cutL_join] at h1
  have := (partsE_ok h).2
  omega
end Go.Proofs.YtcjjbpoaojjojaaGreatDoor

namespace Go.Proofs.YtcjjbpoaojjojaaGreatDoor
open Go

/-- So far read, and what is left. -/
def PStep (s : List UInt8) (acc : List FileB) (rest : List UInt8) : Prop := s = packL acc ++ rest ∧ ∃ m, rest.length ≤ m ∧ allL s = (acc ++ (piecesL m rest).1, (piecesL m rest).2)
theorem PStep.start (s : List UInt8) : PStep s [] s := ⟨rfl, s.length, Nat.le_refl _, rfl⟩
theorem PStep.next {s rest r : List UInt8} {acc : List FileB} {f : FileB} (h : PStep s acc rest) (hp : pieceL rest = some (f, r)) : PStep s (acc ++ [f]) r := by
  obtain ⟨h1, m, h2, h3⟩ := h
  obtain ⟨m', h4, h5⟩ := piecesL_some hp h2
  refine ⟨?_, m', h4, ?_⟩
  · rw [packL_snoc, List.append_assoc, ← (pieceL_inv hp).1]; exact h1
  · rw [h3, h5, List.append_assoc]; rfl
theorem PStep.bad {s rest : List UInt8} {acc : List FileB} (h : PStep s acc rest) (hp : pieceL rest = none) (hne : rest ≠ []) : allL s = (acc, false) := by
  obtain ⟨_, m, _, h3⟩ := h
  rw [h3, piecesL_none hp hne, List.append_nil]
theorem PStep.done {s : List UInt8} {acc : List FileB} (h : PStep s acc []) : allL s = (acc, true) := by
  obtain ⟨_, m, _, h3⟩ := h
  rw [h3, piecesL_nil, List.append_nil]
theorem packOne_five (f : FileB) : f.path.size + f.text.size + 5 ≤ (packOne f).length := by
  unfold packOne
  simp only [List.length_append, List.length_cons, List.length_nil, bl_length]
  omega
theorem packL_five : ∀ (l : List FileB), 5 * l.length ≤ (packL l).length ∧ ∀ f ∈ l, f.path.size + f.text.size ≤ (packL l).length
  | [] => ⟨Nat.zero_le _, fun f hf => by cases hf⟩
  | f :: l => by
    obtain ⟨h1, h2⟩ := packL_five l
    have h3 := packOne_five f
    rw [packL_cons, List.length_append, List.length_cons]
    refine ⟨by omega, fun g hg => ?_⟩
    rcases List.mem_cons.1 hg with rfl | hg
    · omega
    · have := h2 g hg; omega
theorem PStep.small {s rest : List UInt8} {acc : List FileB} (h : PStep s acc rest) (hs : s.length ≤ 20000) : acc.length ≤ 4000 ∧ (∀ f ∈ acc, f.path.size ≤ 30000 ∧ f.text.size ≤ 100000) ∧ rest.length ≤ s.length := by
  obtain ⟨h1, _⟩ := h
  have h2 := congrArg List.length h1
  rw [List.length_append] at h2
  obtain ⟨h3, h4⟩ := packL_five acc
  refine ⟨by omega, fun f hf => ?_, by omega⟩
  have := h4 f hf
  omega
theorem readEr_big {s : List UInt8} (h : 20000 < s.length) : readEr s = ⟨2, none⟩ ∧ readT s = [] := by
  have e : readEr s = ⟨2, none⟩ := by unfold readEr; rw [if_pos h]
  exact ⟨e, by unfold readT; rw [e]; rfl⟩
theorem readEr_bad {s : List UInt8} {acc : List FileB} (h : ¬ 20000 < s.length) (ha : allL s = (acc, false)) : readEr s = ⟨1, some (acc.length : Int)⟩ ∧ readT s = [] := by
  have e : readEr s = ⟨1, some (acc.length : Int)⟩ := by unfold readEr; rw [if_neg h, ha]; rfl
  exact ⟨e, by unfold readT; rw [e]; rfl⟩
theorem readEr_all {s : List UInt8} {acc : List FileB} (h : ¬ 20000 < s.length) (ha : allL s = (acc, true)) : readEr s = treeEr acc ∧ readT s = if (treeEr acc).code = 0 then acc else [] := by
  have e : readEr s = treeEr acc := by unfold readEr; rw [if_neg h, ha]; rfl
  exact ⟨e, by unfold readT; rw [e, ha]⟩
end Go.Proofs.YtcjjbpoaojjojaaGreatDoor
