/- The reference's DropFile: the contract. The reference's StripTree: the contract. A row of files as the source of an append: own steps of the walk. The reference's GraftOf: the contract. The reference's PutFile: the contract. The reference's SortTree: the contract. The reference's SameTrees: the contract. -/
import Derived.Test.YtomceddfbfpjjaaGreatDoorKTreeLoops
import Derived.Test.YtomceddfbfpjjaaGreatDoorKTreeDrops
import Derived.Test.YtomceddfbfpjjaaGreatDoorKRefTree
import Derived.Test.YtomceddfbfpjjaaGreatDoorKFiles
import Derived.Test.YtomceddfbfpjjaaGreatDoorKRefLinkUp
import Derived.Test.YtomceddfbfpjjaaGreatDoorKTreeIns
import Derived.BigQuiet
import Derived.Test.YtomceddfbfpjjaaGreatDoorKTreeFew
namespace Go.Proofs.YtomceddfbfpjjaaGreatDoor
open Go Go.RowKit

/-- What the reference's functions over trees hand back. -/
def RPost (r : Er × List FileB) (w : World) (e : Ending) (w' : World) : Prop :=
  (∃ v, e = .returned (.tuple #[v, .agg (erA r.1)]) ∧ Hid (FOwn w' w.heap.size v r.2)) ∧ Below w.heap.size w w'
/-- A fault at the result's block. -/
theorem fault_end {w : World} {g : Nat} {c a : Int} (h : FaultAt w g c a) (x y : Int) (B : Nat) (hg : B ≤ g) :
    ((w.setCell ⟨g, 0, none⟩ (.int .i64 x)).setCell ⟨g, 1, none⟩ (.int .i64 y)).cell? ⟨g, 0, none⟩ = some (.int .i64 x) ∧ ((w.setCell ⟨g, 0, none⟩ (.int .i64 x)).setCell ⟨g, 1, none⟩ (.int .i64 y)).cell? ⟨g, 1, none⟩ = some (.int .i64 y) ∧ Below B w ((w.setCell ⟨g, 0, none⟩ (.int .i64 x)).setCell ⟨g, 1, none⟩ (.int .i64 y)) :=
  ⟨(h.store x y).cells.1, (h.store x y).cells.2.1, ((Below.refl B w).setCell (p := ⟨g, 0, none⟩) hg _).setCell (p := ⟨g, 1, none⟩) hg _⟩
theorem RPost.fault {r : Er × List FileB} {w w' : World} {v : Value} {c : Nat} {a : Int} (hc : r.1.code = c) (ha : r.1.at?.getD (-1) = a) (h : FOwn w' w.heap.size v r.2) (hb : Below w.heap.size w w') : RPost r w (.returned (.tuple #[v, .agg #[.int .i64 c, .int .i64 a]])) w' :=
  ⟨⟨v, by unfold erA; rw [hc, ha], h⟩, hb⟩
theorem own_fault {w : World} {B g : Nat} {v : Value} {l : List FileB} {c a : Int} (h : FOwn w B v l) (_ : FaultAt w g c a) (hg : g < B) (x y : Int) : FOwn ((w.setCell ⟨g, 0, none⟩ (.int .i64 x)).setCell ⟨g, 1, none⟩ (.int .i64 y)) B v l :=
  FOwn.store (FOwn.store h (fun q hq e => by have := (World.ownsRow.lt h q hq).1; omega) _) (fun q hq e => by have := (World.ownsRow.lt h q hq).1; omega) _
end Go.Proofs.YtomceddfbfpjjaaGreatDoor

namespace Go.Proofs.YtomceddfbfpjjaaGreatDoor
open Go Go.RowKit

/-- What the reference's SortTree is told of. -/
def RSortAny (P : Program) (f : Nat) : Prop := ∀ (v : Value) (l : List FileB) (w : World), FRow w v l → l.length ≤ 10000 → (∀ g ∈ l, SmallF g) → Calls P f #[v] w (RPost (sortT l) w)
theorem RPost.low {r : Er × List FileB} {w w1 w' : World} {e : Ending} (h : RPost r w1 e w') (hb : Below w.heap.size w w1) : RPost r w e w' := by
  obtain ⟨⟨v, he, hO⟩, hb2⟩ := h
  exact ⟨⟨v, he, FOwn.low hO.out hb.size⟩, hb.trans (hb2.mono hb.size)⟩

set_option maxHeartbeats 4000000 in
set_option maxRecDepth 100000 in
theorem refStrip_any (v : Value) (l : List FileB) (n : Int) (w : World) (hv : FRow w v l) (hl : l.length ≤ 10000) (hS : ∀ f ∈ l, SmallF f) (hS2 : ∀ f ∈ l, f.path.size ≤ 300) (hn : (Lit.int .i64 n).wf = true) (hSort : RSortAny Tryz.prog 136) :
    Calls Tryz.prog 103 #[v, .int .i64 n] w (RPost (stripTr l n) w) := by
  obtain ⟨i0, hi0, hz0, hz1, hz2⟩ := info_parts Tryz.infoFile
  have HS := Lib.hid hS
  have HS2 := Lib.hid hS2
  have HWF := Lib.hid hn
  have HSO : Aside _ := hSort
  have HV := Lib.hid hv
  obtain ⟨ao, cap, rfl, h1, h2, H3⟩ := hv
  have HM := Lib.hid H3
  clear H3 hS hS2 hn hSort
  obtain ⟨g, hg⟩ : ∃ g, w.heap.size = g := ⟨_, rfl⟩
  obtain ⟨wg, hwg⟩ : ∃ wg, w.alloc (.cells #[.int .i64 0, .int .i64 0] 50) = wg := ⟨_, rfl⟩
  have hal : Below w.heap.size w wg := by rw [← hwg]; exact (Below.refl _ _).alloc (Nat.le_refl _) _
  have FG := Lib.hid (show FaultAt wg g 0 0 by rw [← hwg, ← hg]; exact FaultAt.new w 0 0)
  have hgw : w.heap.size ≤ g := Nat.le_of_eq hg
  have BG := Lib.hid hal
  have HWG := Lib.hid hwg
  have HG := Lib.hid hg
  have C := Lib.hid (refTreeFault_any _ l wg (HV.out.ext hal) hl HS.out)
  clear hal hwg hg
  go_enter Tryz.func103, Tryz.ntmps103
  go_wp2_with fail
  rw [HWG.out, HG.out]
  refine C.out.mono ?_
  clear C
  rintro e w1 ⟨rfl, hb1⟩
  have F1 := Lib.hid (FG.out.ext hb1)
  have B1 := Lib.hid (BG.out.trans (hb1.mono BG.out.size))
  obtain ⟨c, hc⟩ : ∃ c, (treeEr l).code = c := ⟨_, rfl⟩
  obtain ⟨a, ha⟩ : ∃ a : Int, (treeEr l).at?.getD (-1) = a := ⟨_, rfl⟩
  have HC := Lib.hid hc
  have HA := Lib.hid ha
  rw [show erA (treeEr l) = #[.int .i64 c, .int .i64 a] by unfold erA; rw [hc, ha]]
  obtain ⟨q, hq⟩ : ∃ q, w1.heap.size = q := ⟨_, rfl⟩
  obtain ⟨w2, hw2⟩ : ∃ w2, w1.alloc (.cells #[.int .i64 c, .int .i64 a] 50) = w2 := ⟨_, rfl⟩
  have hal2 : Below w1.heap.size w1 w2 := by rw [← hw2]; exact (Below.refl _ _).alloc (Nat.le_refl _) _
  have FQ := Lib.hid (show FaultAt w2 q c a by rw [← hw2, ← hq]; exact FaultAt.new w1 _ _)
  have F2 := Lib.hid (F1.out.ext hal2)
  have B2 := Lib.hid (B1.out.trans (hal2.mono B1.out.size))
  have HW2 := Lib.hid hw2
  have HQ := Lib.hid hq
  have hgq : g ≠ q := by have := F1.out.lt; omega
  have hgw2 : g < w2.heap.size := F2.out.lt
  clear hb1 hc ha hal2 hw2 hq FG BG F1 B1
  obtain ⟨x0, x1, _, _⟩ := FQ.out.cells
  obtain ⟨y0, y1, y2, y3⟩ := F2.out.cells
  go_upto_region 2 with fail
  rw [HW2.out, HQ.out]
  by_cases hz : c = 0
  rotate_left
  · have hpos : (0 : Int) < (c : Int) := by omega
    have HY : Hid (stripTr l n = (treeEr l, [])) := by show _ = _; unfold stripTr; rw [if_pos (by rw [HC.out]; exact hz)]
    clear hz
    go_wp2_with fail
    go_region
    all_goals go_wp2_with fail
    obtain ⟨s0, s1, s2⟩ := fault_end F2.out c a w.heap.size hgw
    rw [HY.out]
    refine bodyPost_ret (v := .tuple #[.slice none 0 0, .agg #[.int .i64 c, .int .i64 a]]) ?_ rfl (RPost.fault HC.out HA.out (FOwn.nil _ _) ((B2.out.trans s2).drew))
    have s0' := s0; have s1' := s1
    simp [results, Tryz.results103, go_sem, s0', s1']
  · subst hz
    have HY : Hid (stripTr l n = match stripIx n l with
      | some i => (⟨stripE (bl ((l.getD i ⟨⟨#[]⟩, false, ⟨#[]⟩⟩).path)) n, some i⟩, [])
      | none => sortT (l.map (stripF n))) := by show _ = _; unfold stripTr; rw [if_neg (by rw [HC.out]; decide)]; cases stripIx n l <;> rfl
    go_wp2_with fail
    clear x0 x1 y0 y1 y2 y3
    go_loopg [7, 8] l.length (fun g1 ov vi wr => ∃ (k : Nat) (acc : List FileB), vi = .int .i64 k ∧ k ≤ l.length ∧ l.length - k ≤ g1 ∧ acc.length ≤ k ∧ Hid (acc = (l.take k).map (stripF n)) ∧ Hid (∀ j, (h : j < l.length) → j < k → stripE (bl l[j].path) n = 0) ∧ Hid (FOwn wr w2.heap.size ov acc) ∧ Hid (Below w2.heap.size w2 wr))
    case atStart => exact ⟨0, [], rfl, Nat.zero_le _, Nat.le_refl _, Nat.le_refl _, by show _ = _; rw [List.take_zero]; rfl, (fun j _ h => absurd h (Nat.not_lt_zero _)), FOwn.nil _ _, Below.refl _ _⟩
    case round =>
      obtain ⟨k, acc, rfl, hk, hg1, hal, HAC, HJ, HO, HB⟩ := hrel
      obtain ⟨oo, oc, rfl⟩ := HO.out.shape
      by_cases hlt : k < l.length
      · obtain ⟨b, off, rfl, hbl, hcell⟩ := HM.out k hlt
        obtain ⟨q0, q1, q2⟩ := hcell k hlt
        have hbb := B2.out.trans (HB.out.mono B2.out.size)
        rw [← hbb.cell (p := ⟨b, off + k * 3, none⟩) hbl] at q0
        rw [← hbb.cell (p := ⟨b, off + k * 3 + 1, none⟩) hbl] at q1
        rw [← hbb.cell (p := ⟨b, off + k * 3 + 2, none⟩) hbl] at q2
        have sz := HS2.out l[k] (List.getElem_mem hlt)
        have HSN : Hid (acc ++ [stripF n l[k]] = (l.take (k + 1)).map (stripF n)) := by
          show _ = _
          rw [List.take_succ_eq_append_getElem hlt, List.map_append, ← HAC.out]; rfl
        have HX : Hid (stripE (bl l[k].path) n ≠ 0 → stripTr l n = (⟨stripE (bl l[k].path) n, some (k : Int)⟩, [])) := fun h => by
          rw [HY.out, stripIx_some hlt h HJ.out]
          simp only [List.getD_eq_getElem?_getD, List.getElem?_eq_getElem hlt, Option.getD_some]
        have HJ2 : Hid (stripE (bl l[k].path) n = 0 → ∀ j, (h : j < l.length) → j < k + 1 → stripE (bl l[j].path) n = 0) := fun h0 j h hj => by
          by_cases e : j = k
          · subst e; exact h0
          · exact HJ.out j h (by omega)
        clear hcell HAC HJ hbb
        obtain ⟨f, hf⟩ : ∃ f, l[k] = f := ⟨_, rfl⟩
        rw [hf] at q0 q1 q2 sz HSN HX HJ2
        clear hf
        obtain ⟨pf, hpf⟩ : ∃ pf, wr.heap.size = pf := ⟨_, rfl⟩
        obtain ⟨wa, hwa⟩ : ∃ wa, wr.alloc (.cells #[.string f.path, .bool f.run, .string f.text] 68) = wa := ⟨_, rfl⟩
        have hal3 : Below wr.heap.size wr wa := by rw [← hwa]; exact (Below.refl _ _).alloc (Nat.le_refl _) _
        have hA : wa.heap[pf]? = some (.cells #[.string f.path, .bool f.run, .string f.text] 68 (0, 0)) := by rw [← hwa, ← hpf]; exact heap_alloc_new _ _
        have hba := HB.out.trans (hal3.mono HB.out.size)
        have HOa := Lib.hid (HO.out.ext hal3)
        have hpn : ∀ g, (Value.slice oo acc.length oc).ownBlock = some g → g ≠ pf := fun g hg2 => by have := (World.ownsRow.lt HO.out g hg2).2; omega
        have HPN := Lib.hid hpn
        have hpl : w2.heap.size ≤ pf := by rw [← hpf]; exact HB.out.size
        have C := Lib.hid (refStripOf_any f.path n wa (by omega) HWF.out)
        have a0 : wa.cell? ⟨pf, 0, none⟩ = some (.string f.path) := by rw [Lib.cell_of_heap hA]; rfl
        have HPF := Lib.hid hpf
        have HWA := Lib.hid hwa
        have HHA := Lib.hid hA
        have HBA := Lib.hid hba
        clear hpf hwa hA hba hal3 hpn HO
        go_wp2_with fail
        rw [HWA.out, HPF.out]
        refine C.out.mono ?_
        clear C a0 q0 q1 q2
        rintro e w3 ⟨⟨x, rfl, HXX⟩, hb3⟩
        have hA2 : w3.heap[pf]? = some (.cells #[.string f.path, .bool f.run, .string f.text] 68 (0, 0)) := (hb3.block pf (Array.getElem?_eq_some_iff.1 HHA.out).1).trans HHA.out
        have HB3 := Lib.hid (HBA.out.trans (hb3.mono HBA.out.size))
        have HO3 := Lib.hid (HOa.out.ext hb3)
        have a0 : w3.cell? ⟨pf, 0, none⟩ = some (.string f.path) := by rw [Lib.cell_of_heap hA2]; rfl
        have a1 : w3.cell? ⟨pf, 1, none⟩ = some (.bool f.run) := by rw [Lib.cell_of_heap hA2]; rfl
        have a2 : w3.cell? ⟨pf, 2, none⟩ = some (.string f.text) := by rw [Lib.cell_of_heap hA2]; rfl
        have z0 : w3.frozen? ⟨pf, 0, none⟩ = false := Lib.frozen_of_heap hA2 _
        have hle := stripE_le13 (bl f.path) n
        clear hA2 HHA HBA HOa hb3
        obtain ⟨c, hc⟩ : ∃ c, stripE (bl f.path) n = c := ⟨_, rfl⟩
        rw [hc] at HX HJ2 hle ⊢
        by_cases hc0 : c = 0
        rotate_left
        · have HZ := Lib.hid (HX.out hc0)
          have hpos : (0 : Int) < (c : Int) := by omega
          have F4 := Lib.hid (F2.out.ext HB3.out)
          have B4 := Lib.hid (B2.out.trans (HB3.out.mono B2.out.size))
          obtain ⟨y0, y1, y2, y3⟩ := F4.out.cells
          clear hc a0 a1 a2 z0 HSN HX HJ2 HO3 hc0
          go_wp2_with fail
          obtain ⟨s0, s1, s2⟩ := fault_end F4.out c k w.heap.size hgw
          rw [HZ.out]
          refine bodyPost_ret (v := .tuple #[.slice none 0 0, .agg #[.int .i64 c, .int .i64 k]]) ?_ rfl (RPost.fault rfl rfl (FOwn.nil _ _) (B4.out.trans s2))
          simp [results, Tryz.results103, go_sem, s0, s1]
        · subst hc0
          have HJ3 := Lib.hid (HJ2.out rfl)
          have HF : Hid (stripF n f = ⟨x, f.run, f.text⟩) := by
            show _ = _
            refine (file_eq _ _).2 ⟨bl_inj ?_, rfl, rfl⟩
            rw [HXX.out]; rfl
          have HS3 : Hid (acc ++ [⟨x, f.run, f.text⟩] = (l.take (k + 1)).map (stripF n)) := by show _ = _; rw [← HSN.out, HF.out]
          clear hc HSN HX HJ2 HXX HF
          obtain ⟨w4, hw4⟩ : ∃ w4, w3.setCell ⟨pf, 0, none⟩ (.string x) = w4 := ⟨_, rfl⟩
          have HB4 : Hid (Below w2.heap.size w2 w4) := by show Below _ _ _; rw [← hw4]; exact HB3.out.setCell (p := ⟨pf, 0, none⟩) hpl _
          have HO4 : Hid (FOwn w4 w2.heap.size (.slice oo acc.length oc) acc) := by show FOwn _ _ _ _; rw [← hw4]; exact HO3.out.store HPN.out _
          have c0 : w4.cell? ⟨pf, 0, none⟩ = some (.string x) := by rw [← hw4]; exact World.cell?_setCell_same _ _ _ (by rw [a0])
          have c1 : w4.cell? ⟨pf, 1, none⟩ = some (.bool f.run) := by rw [← hw4, World.cell?_setCell_other _ _ _ _ (by simp)]; exact a1
          have c2 : w4.cell? ⟨pf, 2, none⟩ = some (.string f.text) := by rw [← hw4, World.cell?_setCell_other _ _ _ _ (by simp)]; exact a2
          have HW4 := Lib.hid hw4
          clear hw4
          go_upto_region 13 with fail
          rw [HW4.out]
          clear a0 a1 a2 z0 HO3 HB3
          have HOA := Lib.hid HO4.out
          have hww : w4.heap.size ≤ w4.heap.size := Nat.le_refl _
          go_wp2_with (at_builtin; refine wpList_append_own _ rfl _ _ 43 rfl w2.heap.size 68 i0 (.agg #[.string ⟨#[]⟩, .bool false, .string ⟨#[]⟩]) 3 40 Tryz.underlying43 hi0 hz0 hz1 hz2 rfl (by decide) _ _ _ rfl (World.ownsRow.alloc HOA.out _) ⟨w4.heap.size, 0, none⟩ 1 1 [.string x, .bool f.run, .string f.text] rfl rfl ?c1 ?c2 ?c3 ?c4 ?c5 ?_)
          case c1 =>
            intro j u hj
            match j, hj with
            | 0, hj => simp at hj; subst hj; simp [Addr.add]
            | 1, hj => simp at hj; subst hj; simp [Addr.add]
            | 2, hj => simp at hj; subst hj; simp [Addr.add]
          case c2 => intro u hu; simp at hu; rcases hu with rfl | rfl | rfl <;> rfl
          case c3 => rw [maxLen_eq]; omega
          case c4 => omega
          case c5 => have := HB4.out.size; simp at this ⊢; omega
          intro v' w9 hown' hgrow _
          have hown2 : Hid (FOwn w9 w2.heap.size v' (acc ++ [⟨x, f.run, f.text⟩])) := by
            show World.ownsRow _ _ _ _ _ _ _
            simpa using hown'
          have hb9 : Below w2.heap.size w2 w9 := (Below.alloc HB4.out (HB4.out).size _).grown hgrow (by have := HB4.out.size; simp at this ⊢; omega) (fun q hq => (World.ownsRow.lt HOA.out q hq).1)
          clear hown' hgrow HOA
          go_wp2_with fail
          go_roundg (l.length - (k + 1))
          case measure => omega
          case rel => exact ⟨k + 1, acc ++ [⟨x, f.run, f.text⟩], by go_num, by omega, Nat.le_refl _, by simp; omega, HS3, HJ3, hown2, hb9⟩
      · obtain rfl : k = l.length := by omega
        have HX : Hid (stripTr l n = sortT acc) := by
          show _ = _
          rw [HY.out, stripIx_none (fun j h => HJ.out j h h), HAC.out, List.take_length]
        have hsm : ∀ g ∈ acc, SmallF g := fun g hg2 => by
          rw [HAC.out, List.take_length] at hg2
          obtain ⟨f, hf, rfl⟩ := List.mem_map.1 hg2
          have h1 := HS.out f hf
          have h2 := strip_len (bl f.path) n
          refine ⟨?_, h1.2⟩
          rw [bl_length] at h2
          have h3 : (stripF n f).path.size = (stripT (bl f.path) n).length := by rw [← bl_length]; rfl
          have := h1.1
          omega
        have C := Lib.hid (HSO.out _ acc wr HO.out.row (by omega) hsm)
        have F3 := Lib.hid (F2.out.ext HB.out)
        have B3 := Lib.hid (B2.out.trans (HB.out.mono B2.out.size))
        have hgr : g < wr.heap.size := F3.out.lt
        clear HAC HM HJ hsm
        go_wp2_with fail
        refine C.out.mono ?_
        rintro e w4 ⟨⟨v4, rfl, HO4⟩, hb4⟩
        have F4 := Lib.hid (F3.out.ext hb4)
        obtain ⟨y0, y1, y2, y3⟩ := F4.out.cells
        have B4 := Lib.hid (B3.out.trans (hb4.mono B3.out.size))
        obtain ⟨c, hc⟩ : ∃ c, (sortT acc).1.code = c := ⟨_, rfl⟩
        obtain ⟨a, ha⟩ : ∃ a : Int, (sortT acc).1.at?.getD (-1) = a := ⟨_, rfl⟩
        have HC4 := Lib.hid hc
        have HA4 := Lib.hid ha
        rw [show erA (sortT acc).1 = #[.int .i64 c, .int .i64 a] by unfold erA; rw [hc, ha]]
        clear hc ha C
        go_wp2_with fail
        obtain ⟨s0, s1, s2⟩ := fault_end F4.out c a w.heap.size hgw
        rw [HX.out]
        refine bodyPost_ret (v := .tuple #[v4, .agg #[.int .i64 c, .int .i64 a]]) ?_ rfl (RPost.fault HC4.out HA4.out (FOwn.low (own_fault HO4.out F4.out hgr c a) B3.out.size) (B4.out.trans s2))
        simp [results, Tryz.results103, go_sem, s0, s1]
end Go.Proofs.YtomceddfbfpjjaaGreatDoor

namespace Go.Proofs.YtomceddfbfpjjaaGreatDoor
open Go Go.RowKit

/-- Files that are read by an append. -/
def FSrc (w : World) (v : Value) (m : List FileB) : Prop :=
  v = .slice none 0 0 ∧ m = [] ∨ ∃ ad cap, v = .slice (some ad) m.length cap ∧ ∀ k, (hk : k < m.length) → ∃ b off, ad = ⟨b, off, none⟩ ∧ w.cell? ⟨b, off + k * 3, none⟩ = some (.string m[k].path) ∧ w.cell? ⟨b, off + k * 3 + 1, none⟩ = some (.bool m[k].run) ∧ w.cell? ⟨b, off + k * 3 + 2, none⟩ = some (.string m[k].text)
theorem FSrc.none (w : World) : FSrc w (.slice none 0 0) [] := .inl ⟨rfl, rfl⟩
theorem FSrc.drop0 {w : World} {ao : Option Addr} {n cap k : Nat} {l : List FileB} (h : FSrc w (.slice ao n cap) l) (hn : l.length = n) (hc : n ≤ cap) (hk : k ≤ n) : FSrc w (.slice (if cap = k then ao else ao.map (·.add (k * 3))) (n - k) (cap - k)) (l.drop k) := by
  rcases h with ⟨h, rfl⟩ | ⟨ad, c, h, hcell⟩
  · injection h with e1 e2 e3
    subst e1 e2 e3
    left
    simp
  · injection h with e1 e2 e3
    subst e1 e3
    right
    by_cases hck : cap = k
    · subst hck
      have : n = cap := by omega
      subst this
      rw [if_pos rfl]
      exact ⟨ad, 0, by simp [hn], fun j hj => absurd hj (by simp [hn])⟩
    · rw [if_neg hck]
      refine ⟨ad.add (k * 3), cap - k, by simp [hn], fun j hj => ?_⟩
      rw [List.length_drop] at hj
      obtain ⟨b, off, rfl, this⟩ := hcell (k + j) (by omega)
      rw [List.getElem_drop]
      refine ⟨b, off + k * 3, by rw [Addr.add_lit], ?_⟩
      rw [show off + k * 3 + j * 3 = off + (k + j) * 3 by omega]
      exact this
theorem FSrc.take0 {w : World} {ao : Option Addr} {n cap k : Nat} {l : List FileB} (h : FSrc w (.slice ao n cap) l) (hn : l.length = n) (hk : k ≤ n) : FSrc w (.slice ao k cap) (l.take k) := by
  rcases h with ⟨h, rfl⟩ | ⟨ad, c, h, hcell⟩
  · injection h with e1 e2 e3
    subst e1 e2 e3
    left
    have : k = 0 := by omega
    subst this; simp
  · injection h with e1 e2 e3
    subst e1 e3
    right
    refine ⟨ad, cap, by rw [List.length_take, Nat.min_eq_left (by omega)], fun j hj => ?_⟩
    rw [List.length_take] at hj
    rw [List.getElem_take]
    exact hcell j (by omega)
theorem FSrc.one (w : World) (f : FileB) (t : TypeId) : FSrc (w.alloc (.cells #[.string f.path, .bool f.run, .string f.text] t)) (.slice (some ⟨w.heap.size, 0, Option.none⟩) 1 1) [f] := by
  refine .inr ⟨⟨w.heap.size, 0, Option.none⟩, 1, rfl, fun k hk => ?_⟩
  have hA := heap_alloc_new w (.cells #[.string f.path, .bool f.run, .string f.text] t)
  have : k = 0 := by simpa using hk
  subst this
  refine ⟨_, _, rfl, ?_, ?_, ?_⟩ <;> rw [Lib.cell_of_heap hA] <;> rfl
theorem FArg.src {w : World} {v : Value} {l : List FileB} (h : FArg w v l) : FSrc w v l := by
  obtain ⟨⟨ao, cap, rfl, h1, h2, h3⟩, hn⟩ := h
  cases ao with
  | none =>
    obtain ⟨h0, rfl⟩ := hn _ _ rfl
    left
    rw [h0]
    exact ⟨rfl, List.eq_nil_of_length_eq_zero h0⟩
  | some ad =>
    right
    refine ⟨ad, cap, rfl, fun k hk => ?_⟩
    obtain ⟨b, off, e, _, hc⟩ := h3 k hk
    injection e with e
    exact ⟨b, off, e, hc k hk⟩
theorem FOwn.src {w : World} {base : Nat} {v : Value} {l : List FileB} (h : FOwn w base v l) : FSrc w v l := h.arg.src
theorem FSrc.ext {w w' : World} {v : Value} {l : List FileB} {B : Nat} (h : FSrc w v l) (hb : Below B w w') (hl : ∀ b o c n, v = .slice (some ⟨b, o, Option.none⟩) n c → b < B) : FSrc w' v l := by
  rcases h with h | ⟨ad, c, rfl, hcell⟩
  · exact .inl h
  · refine .inr ⟨ad, c, rfl, fun k hk => ?_⟩
    obtain ⟨b, off, rfl, q0, q1, q2⟩ := hcell k hk
    have hB := hl _ _ _ _ rfl
    exact ⟨b, off, rfl, by rw [hb.cell (p := ⟨b, off + k * 3, Option.none⟩) hB]; exact q0, by rw [hb.cell (p := ⟨b, off + k * 3 + 1, Option.none⟩) hB]; exact q1, by rw [hb.cell (p := ⟨b, off + k * 3 + 2, Option.none⟩) hB]; exact q2⟩

/- append(s, x...) of files, s the call own. -/
set_option maxRecDepth 100000 in
theorem wpList_append_files {w : World} {ops : Array Oper} {rest : List Oper} {o : Oper} {a : Act} {Q : Exit → Act → World → Prop} (hgd : o.guard = none) (s x : Operand)
    (ho : o.op = .call { callee := .builtin .append, args := #[s, x], argTypes := #[43, 43] })
    (base : Nat) (v : Value) (l : List FileB) (hs : a.eval s = v) (hown : FOwn w base v l) (u : Value) (m : List FileB) (hx : a.eval x = u) (hsrc : FSrc w u m) (hlen : l.length + m.length ≤ 1000000) (hbase : base ≤ w.heap.size)
    (h : ∀ v' w', Hid (FOwn w' base v' (l ++ m)) → Hid (∀ w0, Below base w0 w → Below base w0 w') → wpList Tryz.prog ops Q rest (a.put o.dst v') w') : wpList Tryz.prog ops Q (o :: rest) a w := by
  obtain ⟨i0, hi0, hz0, hz1, hz2⟩ := info_parts Tryz.infoFile
  rcases hsrc with ⟨rfl, rfl⟩ | ⟨ad, c, rfl, hcell⟩
  · refine wpList_append_own_none hgd s x 43 ho base 68 i0 3 Tryz.underlying43 hi0 v l.length _ hs hown hx ?_
    refine h _ _ ?_ (fun _ hb => hb)
    show FOwn _ _ _ _
    rw [List.append_nil]; exact hown
  · refine wpList_append_own w hgd s x 43 ho base 68 i0 (.agg #[.string ⟨#[]⟩, .bool false, .string ⟨#[]⟩]) 3 40 Tryz.underlying43 hi0 hz0 hz1 hz2 rfl (by decide) v l.length _ hs hown ad m.length c (m.flatMap encFile) hx (flatMap_len _ 3 (fun _ => rfl) m) ?c1 ?c2 ?c3 ?c4 hbase ?_
    case c1 =>
      intro j u hj
      have hjl : j < (m.flatMap encFile).length := (List.getElem?_eq_some_iff.1 hj).1
      rw [flatMap_len encFile 3 (fun _ => rfl)] at hjl
      have hi : j / 3 < m.length := by omega
      obtain ⟨b, off, rfl, q0, q1, q2⟩ := hcell (j / 3) hi
      rw [show j = j / 3 * 3 + j % 3 by omega, flatMap_at encFile 3 (fun _ => rfl) m (j / 3) (j % 3) hi (by omega)] at hj
      have hm : j % 3 = 0 ∨ j % 3 = 1 ∨ j % 3 = 2 := by omega
      show w.cell? (Addr.add ⟨b, off, none⟩ j) = some u
      rw [Addr.add_lit]
      rcases hm with hm | hm | hm
      · rw [hm] at hj
        have : u = .string m[j / 3].path := by simpa using hj.symm
        rw [this, ← q0]; congr 2; omega
      · rw [hm] at hj
        have : u = .bool m[j / 3].run := by simpa using hj.symm
        rw [this, ← q1]; congr 2; omega
      · rw [hm] at hj
        have : u = .string m[j / 3].text := by simpa using hj.symm
        rw [this, ← q2]; congr 2; omega
    case c2 =>
      intro u hu
      obtain ⟨f, _, hf⟩ := List.mem_flatMap.1 hu
      simp at hf
      rcases hf with rfl | rfl | rfl <;> rfl
    case c3 => rw [maxLen_eq]; omega
    case c4 => omega
    intro v' w' hown' hgrow _
    refine h v' w' ?_ (fun w0 hb => hb.grown hgrow hbase (fun q hq => (World.ownsRow.lt hown q hq).1))
    show World.ownsRow _ _ _ _ _ _ _
    rw [List.length_append, List.flatMap_append]; exact hown'

set_option maxRecDepth 100000 in
/-- The files from a place on, of a row. -/
theorem wpList_drop_files {w : World} {ops : Array Oper} {rest : List Oper} {o : Oper} {a : Act} {Q : Exit → Act → World → Prop} (hgd : o.guard = none) (x lo : Operand) (ho : o.op = .slice 43 x (some lo) none none)
    (ao : Option Addr) (n c k : Nat) (l : List FileB) (hx : a.eval x = .slice ao n c) (hlo : a.eval lo = .int .i64 (k : Int)) (hsrc : FSrc w (.slice ao n c) l) (hn : l.length = n) (hc : n ≤ c) (hk : k ≤ n)
    (h : ∀ v', Hid (FSrc w v' (l.drop k)) → wpList Tryz.prog ops Q rest (a.put o.dst v') w) : wpList Tryz.prog ops Q (o :: rest) a w := by
  refine wpList_plain hgd fun K hK => ?_
  have hu : Tryz.prog.underlying 43 = some (.slice (Tryz.prog.elem 43)) := Tryz.underlying43
  have hk0 : (0 : Int) ≤ (k : Int) := by omega
  have hk1 : (k : Int) ≤ (n : Int) := by omega
  have h1 := h _ (hsrc.drop0 hn hc hk)
  unfold Oper.wp execOp
  simp only [ho, hx, hlo, Option.map_some, Option.map_none, run_sliceAt_slice (h := hu), run_slice_l (ht := hu) (h0 := hk0) (h1 := hk1), show Tryz.prog.elem 43 = 68 from rfl, Tryz.sizeOf68, Result.andThen_ok, sliced, Int.toNat_natCast, Sem.run_bind, Sem.run_pure]
  exact hK _ _ h1
set_option maxRecDepth 100000 in
/-- The first files of a row. -/
theorem wpList_take_files {w : World} {ops : Array Oper} {rest : List Oper} {o : Oper} {a : Act} {Q : Exit → Act → World → Prop} (hgd : o.guard = none) (x hi : Operand) (ho : o.op = .slice 43 x none (some hi) none)
    (ao : Option Addr) (n c k : Nat) (l : List FileB) (hx : a.eval x = .slice ao n c) (hhi : a.eval hi = .int .i64 (k : Int)) (hsrc : FSrc w (.slice ao n c) l) (hn : l.length = n) (hc : n ≤ c) (hk : k ≤ n)
    (h : ∀ v', Hid (FSrc w v' (l.take k)) → wpList Tryz.prog ops Q rest (a.put o.dst v') w) : wpList Tryz.prog ops Q (o :: rest) a w := by
  refine wpList_plain hgd fun K hK => ?_
  have hu : Tryz.prog.underlying 43 = some (.slice (Tryz.prog.elem 43)) := Tryz.underlying43
  have hk0 : (0 : Int) ≤ (k : Int) := by omega
  have hk1 : (k : Int) ≤ (c : Int) := by omega
  have h1 := h (.slice (if c = 0 then ao else ao.map (·.add (0 * 3))) (k - 0) (c - 0)) (by
    have h2 := (hsrc.drop0 (k := 0) hn hc (Nat.zero_le _)).take0 (k := k) (by rw [List.drop_zero]; exact hn) (by omega)
    rw [List.drop_zero] at h2
    exact h2)
  unfold Oper.wp execOp
  simp only [ho, hx, hhi, Option.map_some, Option.map_none, run_sliceAt_slice (h := hu), run_slice_h (ht := hu) (h0 := hk0) (h2 := hk1), show Tryz.prog.elem 43 = 68 from rfl, Tryz.sizeOf68, Result.andThen_ok, sliced, Int.toNat_natCast, Sem.run_bind, Sem.run_pure]
  exact hK _ _ h1
end Go.Proofs.YtomceddfbfpjjaaGreatDoor

namespace Go.Proofs.YtomceddfbfpjjaaGreatDoor
open Go Go.RowKit

end Go.Proofs.YtomceddfbfpjjaaGreatDoor

namespace Go.Proofs.YtomceddfbfpjjaaGreatDoor
open Go Go.RowKit

theorem bless (f g : FileB) : Op.bytesLess f.path.toList g.path.toList = decide (pLt f g) := by rw [less_eq, toList_bl, toList_bl]; rfl
end Go.Proofs.YtomceddfbfpjjaaGreatDoor

namespace Go.Proofs.YtomceddfbfpjjaaGreatDoor
open Go Go.RowKit

theorem backIx_at {x : FileB} {out : List FileB} {j : Nat} (hj : j ≤ out.length) (h1 : ∀ i, (h : i < out.length) → j ≤ i → pLt x out[i]) (h2 : ∀ h : 0 < j, ¬ pLt x (out[j - 1]'(by omega))) : backIx x out = j := by
  unfold backIx
  have e : out.reverse.takeWhile (fun y => decide (pLt x y)) = (out.drop j).reverse := by
    conv => lhs; rw [← List.take_append_drop j out, List.reverse_append]
    rw [List.takeWhile_append_of_pos]
    · by_cases h0 : 0 < j
      · have : out.take j = out.take (j - 1) ++ [out[j - 1]'(by omega)] := by
          rw [← List.take_succ_eq_append_getElem (by omega), show j - 1 + 1 = j by omega]
        rw [this, List.reverse_append, List.reverse_singleton, List.singleton_append, List.takeWhile_cons, decide_eq_false (h2 h0)]
        simp
      · have : j = 0 := by omega
        subst this; simp
    · intro y hy
      rw [List.mem_reverse] at hy
      obtain ⟨i, hi, rfl⟩ := List.getElem_of_mem hy
      rw [List.length_drop] at hi
      rw [List.getElem_drop]
      exact decide_eq_true (h1 (j + i) (by omega) (by omega))
  rw [e, List.length_reverse, List.length_drop]; omega
set_option maxHeartbeats 4000000 in
set_option maxRecDepth 100000 in
theorem refSort_any (v : Value) (l : List FileB) (w : World) (hv : FRow w v l) (hl : l.length ≤ 10000) (hS : ∀ f ∈ l, SmallF f) :
    Calls Tryz.prog 136 #[v] w (RPost (sortT l) w) := by
  obtain ⟨i0, hi0, hz0, hz1, hz2⟩ := info_parts Tryz.infoFile
  have HS := Lib.hid hS
  obtain ⟨ao, cap, rfl, h1, h2, H3⟩ := hv
  have HM := Lib.hid H3
  clear H3 hS
  obtain ⟨g, hg⟩ : ∃ g, w.heap.size = g := ⟨_, rfl⟩
  obtain ⟨wg, hwg⟩ : ∃ wg, w.alloc (.cells #[.int .i64 0, .int .i64 0] 50) = wg := ⟨_, rfl⟩
  have hal : Below w.heap.size w wg := by rw [← hwg]; exact (Below.refl _ _).alloc (Nat.le_refl _) _
  have FG := Lib.hid (show FaultAt wg g 0 0 by rw [← hwg, ← hg]; exact FaultAt.new w 0 0)
  have hgw : w.heap.size ≤ g := Nat.le_of_eq hg
  have BG := Lib.hid hal
  have HWG := Lib.hid hwg
  have HG := Lib.hid hg
  have hgg : g < wg.heap.size := FG.out.lt
  clear hal hwg hg
  go_enter Tryz.func136, Tryz.ntmps136
  go_wp2_with fail
  rw [HWG.out, HG.out]
  go_loopg [4, 5] l.length (fun g1 ov vi wr => ∃ (k : Nat) (acc : List FileB), vi = .int .i64 k ∧ k ≤ l.length ∧ l.length - k ≤ g1 ∧ acc.length ≤ k ∧ k ≤ acc.length ∧ Hid (acc = (l.take k).foldl insB []) ∧ Hid (FOwn wr wg.heap.size ov acc) ∧ Hid (Below wg.heap.size wg wr))
  case atStart => exact ⟨0, [], rfl, Nat.zero_le _, Nat.le_refl _, Nat.le_refl _, Nat.le_refl _, by show _ = _; rw [List.take_zero]; rfl, FOwn.nil _ _, Below.refl _ _⟩
  case round =>
    obtain ⟨k, acc, rfl, hk, hg1, hal, hal2, HAC, HO, HB⟩ := hrel
    obtain ⟨oo, oc, rfl⟩ := HO.out.shape
    by_cases hlt : k < l.length
    · obtain ⟨b, off, rfl, hbl, hcell⟩ := HM.out k hlt
      obtain ⟨q0, q1, q2⟩ := hcell k hlt
      have hbb := BG.out.trans (HB.out.mono BG.out.size)
      have hbw : b < wr.heap.size := Nat.lt_of_lt_of_le hbl hbb.size
      rw [← hbb.cell (p := ⟨b, off + k * 3, none⟩) hbl] at q0
      rw [← hbb.cell (p := ⟨b, off + k * 3 + 1, none⟩) hbl] at q1
      rw [← hbb.cell (p := ⟨b, off + k * 3 + 2, none⟩) hbl] at q2
      have HSN : Hid (insB acc l[k] = (l.take (k + 1)).foldl insB []) := by
        show _ = _
        rw [List.take_succ_eq_append_getElem hlt, List.foldl_append, ← HAC.out]; rfl
      clear hcell HAC hbb
      obtain ⟨f, hf⟩ : ∃ f, l[k] = f := ⟨_, rfl⟩
      rw [hf] at q0 q1 q2 HSN
      clear hf
      have hoc : acc.length ≤ oc := by obtain ⟨_, _, e, h, _⟩ := HO.out.row; injection e with _ _ e; omega
      have HQ0 := Lib.hid q0
      have HQ1 := Lib.hid q1
      have HQ2 := Lib.hid q2
      clear q0 q1 q2
      go_wp2_with fail
      rename World => wo
      go_loopg [6] k (fun g2 vj wi => ∃ j : Nat, vj = .int .i64 j ∧ j ≤ acc.length ∧ j ≤ g2 ∧ Hid (∀ i, (h : i < acc.length) → j ≤ i → pLt f acc[i]) ∧ Hid (Below wo.heap.size wo wi))
      case atStart => exact ⟨acc.length, rfl, Nat.le_refl _, by omega, fun i h hi => by omega, Below.refl _ _⟩
      case round =>
        obtain ⟨j, rfl, hj, hg2, HJ, HBI⟩ := hrel
        have q0 := (HBI.out.cell (p := ⟨b, off + k * 3, none⟩) hbw).trans HQ0.out
        by_cases hj0 : 0 < j
        · obtain ⟨ro, rc, he, hr1, hr2, hrc⟩ := HO.out.row
          injection he with he1 _ he2
          subst he1 he2
          obtain ⟨b2, off2, rfl, hbl2, hcell2⟩ := hrc (j - 1) (by omega)
          obtain ⟨p0, _, _⟩ := hcell2 (j - 1) (by omega)
          have p0 := (HBI.out.cell (p := ⟨b2, off2 + (j - 1) * 3, none⟩) hbl2).trans p0
          have HBL := bless f (acc[j - 1]'(by omega))
          have HJ2 : Hid (pLt f (acc[j - 1]'(by omega)) → ∀ i, (h : i < acc.length) → j - 1 ≤ i → pLt f acc[i]) := fun h0 i h hi => by
            by_cases e : i = j - 1
            · subst e; exact h0
            · exact HJ.out i h (by omega)
          have HIX : Hid (¬ pLt f (acc[j - 1]'(by omega)) → backIx f acc = j) := fun h0 => backIx_at hj HJ.out (fun _ => h0)
          clear hcell2 hrc HJ
          obtain ⟨y, hy⟩ : ∃ y, acc[j - 1]'(by omega) = y := ⟨_, rfl⟩
          rw [hy] at p0 HBL HJ2 HIX
          clear hy
          have hwr : IntKind.i64.wrap ((j : Int) - 1) = ((j - 1 : Nat) : Int) := by rw [IntWalk.i64_in _ (by omega)]; omega
          have hd0 : decide (0 < j) = true := decide_eq_true (by omega)
          have hkl : ((j - 1 : Nat) : Int) < (acc.length : Int) := by omega
          have hkl2 : (k : Int) < (l.length : Int) := by omega
          by_cases hp : pLt f y
          · have HJ3 := Lib.hid (HJ2.out hp)
            have e0 : Op.bytesLess f.path.toList y.path.toList = true := by rw [HBL]; exact decide_eq_true hp
            clear HBL HJ2 HIX hp
            go_wp2_with fail
            go_quiet (fail)
            go_wp2_with fail
            go_roundg (j - 1)
            case measure => omega
            case rel => exact ⟨j - 1, by first | rfl | (rw [hwr]) | (congr 1; omega), by omega, Nat.le_refl _, HJ3, HBI.out.trans ((below_drewN _ _ _).mono HBI.out.size)⟩
          · have HI := Lib.hid (HIX.out hp)
            have e0 : Op.bytesLess f.path.toList y.path.toList = false := by rw [HBL]; exact decide_eq_false hp
            clear HBL HJ2 HIX hp
            go_wp2_with fail
            go_quiet (fail)
            obtain ⟨w5, hw5⟩ : ∃ w5, wr.drewN nq = w5 := ⟨_, rfl⟩
            have HB5 : Hid (Below wo.heap.size wo w5) := by show Below _ _ _; rw [← hw5]; exact HBI.out.trans ((below_drewN _ _ _).mono HBI.out.size)
            rw [hw5]
            clear hw5 HBI q0
            have HI2 : Hid (insB acc f = (acc.take j ++ [f]) ++ acc.drop j) := by show _ = _; unfold insB; rw [HI.out]
            obtain ⟨tk, htk⟩ : ∃ tk, acc.take j = tk := ⟨_, rfl⟩
            obtain ⟨rs, hrs⟩ : ∃ rs, acc.drop j = rs := ⟨_, rfl⟩
            have htl : tk.length ≤ j ∧ j ≤ tk.length := by rw [← htk, List.length_take]; omega
            obtain ⟨htl, htl'⟩ := htl
            have hrl : rs.length + j ≤ acc.length ∧ acc.length ≤ rs.length + j := by rw [← hrs, List.length_drop]; omega
            obtain ⟨hrl, hrl'⟩ := hrl
            have HSRC := Lib.hid (HO.out.ext HB5.out).src
            rw [htk, hrs] at HI2
            have HTK := Lib.hid htk
            have HRS := Lib.hid hrs
            clear htk hrs
            go_wp2_with (refine wpList_take_files rfl _ _ rfl (some ⟨b2, off2, none⟩) acc.length oc j acc rfl rfl HSRC.out rfl hoc hj ?_)
            intro v1 HV1
            rw [HTK.out] at HV1
            go_wp2_with (at_builtin; refine wpList_append_files rfl _ _ rfl w5.heap.size (.slice none 0 0) [] rfl (FOwn.nil _ _) v1 tk rfl HV1.out (by simp; omega) (Nat.le_refl _) ?_)
            intro ov6 w6 HO6' HB6'
            have HO6 : Hid (FOwn w6 w5.heap.size ov6 tk) := HO6'.out
            have HB6 := Lib.hid (HB6'.out w5 (Below.refl _ _))
            clear HO6' HB6' HV1 HTK HSRC
            obtain ⟨o6, c6, rfl⟩ := HO6.out.shape
            have hb6 : Below wo.heap.size wo w6 := HB5.out.trans (HB6.out.mono HB5.out.size)
            have a0 := (hb6.cell (p := ⟨b, off + k * 3, none⟩) hbw).trans HQ0.out
            have a1 := (hb6.cell (p := ⟨b, off + k * 3 + 1, none⟩) hbw).trans HQ1.out
            have a2 := (hb6.cell (p := ⟨b, off + k * 3 + 2, none⟩) hbw).trans HQ2.out
            clear hb6
            go_wp2_with (at_builtin; refine wpList_append_files rfl _ _ rfl w5.heap.size (.slice o6 tk.length c6) tk rfl (HO6.out.ext ((Below.refl _ _).alloc (Nat.le_refl _) _)) _ [f] rfl (FSrc.one w6 f _) (by simp; omega) (Nat.le_trans HB6.out.size (by simp)) ?_)
            intro ov7 w7 HO7 HB7'
            have HB7 := Lib.hid (HB7'.out w5 (HB6.out.alloc HB6.out.size _))
            clear HB7' HO6 a0 a1 a2
            obtain ⟨tx, htx⟩ : ∃ tx, tk ++ [f] = tx := ⟨_, rfl⟩
            have htl2 : tx.length ≤ tk.length + 1 ∧ tk.length + 1 ≤ tx.length := by rw [← htx]; simp
            obtain ⟨htl2, htl2'⟩ := htl2
            rw [htx] at HO7 HI2
            clear htx
            obtain ⟨o7, c7, rfl⟩ := HO7.out.shape
            have HSRC := Lib.hid (HO.out.ext (HB5.out.trans (HB7.out.mono HB5.out.size))).src
            go_wp2_with (refine wpList_drop_files rfl _ _ rfl (some ⟨b2, off2, none⟩) acc.length oc j acc rfl rfl HSRC.out rfl hoc hj ?_)
            intro v2 HV2
            rw [HRS.out] at HV2
            go_wp2_with (at_builtin; refine wpList_append_files rfl _ _ rfl w5.heap.size (.slice o7 tx.length c7) tx rfl HO7.out v2 rs rfl HV2.out (by omega) HB7.out.size ?_)
            intro ov8 w8 HO8 HB8'
            have HB8 := Lib.hid (HB8'.out w5 HB7.out)
            clear HB8' HO7 HV2 HSRC HRS
            obtain ⟨out, hout⟩ : ∃ out, tx ++ rs = out := ⟨_, rfl⟩
            have htl3 : out.length ≤ k + 1 ∧ k + 1 ≤ out.length := by rw [← hout, List.length_append]; omega
            obtain ⟨htl3, htl3'⟩ := htl3
            rw [hout] at HO8 HI2
            clear hout
            have HS3 : Hid (out = (l.take (k + 1)).foldl insB []) := by show _ = _; rw [← HSN.out, HI2.out]
            have HB9 := Lib.hid (HB.out.trans ((HB5.out.trans (HB8.out.mono HB5.out.size)).mono HB.out.size))
            have HO9 := Lib.hid (FOwn.low HO8.out (Nat.le_trans HB.out.size HB5.out.size))
            clear HB6 HB7 HO8 HB8
            go_wp2_with fail
            go_roundg (l.length - (k + 1))
            case measure => omega
            case rel => exact ⟨k + 1, out, by go_num, by omega, Nat.le_refl _, htl3, htl3', HS3, HO9, HB9⟩
        · have HI := Lib.hid (backIx_at hj HJ.out (fun h => absurd h hj0))
          have hd0 : decide (0 < j) = false := decide_eq_false hj0
          go_wp2_with fail
          go_quiet (fail)
          obtain ⟨w5, hw5⟩ : ∃ w5, wr.drewN nq = w5 := ⟨_, rfl⟩
          have HB5 : Hid (Below wo.heap.size wo w5) := by show Below _ _ _; rw [← hw5]; exact HBI.out.trans ((below_drewN _ _ _).mono HBI.out.size)
          rw [hw5]
          clear hw5 HBI q0
          have HI2 : Hid (insB acc f = (acc.take j ++ [f]) ++ acc.drop j) := by show _ = _; unfold insB; rw [HI.out]
          obtain ⟨tk, htk⟩ : ∃ tk, acc.take j = tk := ⟨_, rfl⟩
          obtain ⟨rs, hrs⟩ : ∃ rs, acc.drop j = rs := ⟨_, rfl⟩
          have htl : tk.length ≤ j ∧ j ≤ tk.length := by rw [← htk, List.length_take]; omega
          obtain ⟨htl, htl'⟩ := htl
          have hrl : rs.length + j ≤ acc.length ∧ acc.length ≤ rs.length + j := by rw [← hrs, List.length_drop]; omega
          obtain ⟨hrl, hrl'⟩ := hrl
          have HSRC := Lib.hid (HO.out.ext HB5.out).src
          rw [htk, hrs] at HI2
          have HTK := Lib.hid htk
          have HRS := Lib.hid hrs
          clear htk hrs
          go_wp2_with (refine wpList_take_files rfl _ _ rfl oo acc.length oc j acc rfl rfl HSRC.out rfl hoc hj ?_)
          intro v1 HV1
          rw [HTK.out] at HV1
          go_wp2_with (at_builtin; refine wpList_append_files rfl _ _ rfl w5.heap.size (.slice none 0 0) [] rfl (FOwn.nil _ _) v1 tk rfl HV1.out (by simp; omega) (Nat.le_refl _) ?_)
          intro ov6 w6 HO6' HB6'
          have HO6 : Hid (FOwn w6 w5.heap.size ov6 tk) := HO6'.out
          have HB6 := Lib.hid (HB6'.out w5 (Below.refl _ _))
          clear HO6' HB6' HV1 HTK HSRC
          obtain ⟨o6, c6, rfl⟩ := HO6.out.shape
          have hb6 : Below wo.heap.size wo w6 := HB5.out.trans (HB6.out.mono HB5.out.size)
          have a0 := (hb6.cell (p := ⟨b, off + k * 3, none⟩) hbw).trans HQ0.out
          have a1 := (hb6.cell (p := ⟨b, off + k * 3 + 1, none⟩) hbw).trans HQ1.out
          have a2 := (hb6.cell (p := ⟨b, off + k * 3 + 2, none⟩) hbw).trans HQ2.out
          clear hb6
          go_wp2_with (at_builtin; refine wpList_append_files rfl _ _ rfl w5.heap.size (.slice o6 tk.length c6) tk rfl (HO6.out.ext ((Below.refl _ _).alloc (Nat.le_refl _) _)) _ [f] rfl (FSrc.one w6 f _) (by simp; omega) (Nat.le_trans HB6.out.size (by simp)) ?_)
          intro ov7 w7 HO7 HB7'
          have HB7 := Lib.hid (HB7'.out w5 (HB6.out.alloc HB6.out.size _))
          clear HB7' HO6 a0 a1 a2
          obtain ⟨tx, htx⟩ : ∃ tx, tk ++ [f] = tx := ⟨_, rfl⟩
          have htl2 : tx.length ≤ tk.length + 1 ∧ tk.length + 1 ≤ tx.length := by rw [← htx]; simp
          obtain ⟨htl2, htl2'⟩ := htl2
          rw [htx] at HO7 HI2
          clear htx
          obtain ⟨o7, c7, rfl⟩ := HO7.out.shape
          have HSRC := Lib.hid (HO.out.ext (HB5.out.trans (HB7.out.mono HB5.out.size))).src
          go_wp2_with (refine wpList_drop_files rfl _ _ rfl oo acc.length oc j acc rfl rfl HSRC.out rfl hoc hj ?_)
          intro v2 HV2
          rw [HRS.out] at HV2
          go_wp2_with (at_builtin; refine wpList_append_files rfl _ _ rfl w5.heap.size (.slice o7 tx.length c7) tx rfl HO7.out v2 rs rfl HV2.out (by omega) HB7.out.size ?_)
          intro ov8 w8 HO8 HB8'
          have HB8 := Lib.hid (HB8'.out w5 HB7.out)
          clear HB8' HO7 HV2 HSRC HRS
          obtain ⟨out, hout⟩ : ∃ out, tx ++ rs = out := ⟨_, rfl⟩
          have htl3 : out.length ≤ k + 1 ∧ k + 1 ≤ out.length := by rw [← hout, List.length_append]; omega
          obtain ⟨htl3, htl3'⟩ := htl3
          rw [hout] at HO8 HI2
          clear hout
          have HS3 : Hid (out = (l.take (k + 1)).foldl insB []) := by show _ = _; rw [← HSN.out, HI2.out]
          have HB9 := Lib.hid (HB.out.trans ((HB5.out.trans (HB8.out.mono HB5.out.size)).mono HB.out.size))
          have HO9 := Lib.hid (FOwn.low HO8.out (Nat.le_trans HB.out.size HB5.out.size))
          clear HB6 HB7 HO8 HB8
          go_wp2_with fail
          go_roundg (l.length - (k + 1))
          case measure => omega
          case rel => exact ⟨k + 1, out, by go_num, by omega, Nat.le_refl _, htl3, htl3', HS3, HO9, HB9⟩
    · obtain rfl : k = l.length := by omega
      have HX : Hid (acc = isort l) := by show _ = _; rw [HAC.out, List.take_length]; rfl
      have HSA : Hid (∀ f ∈ acc, SmallF f) := by show ∀ f ∈ acc, SmallF f; rw [HX.out]; exact isort_small HS.out
      have B1 := Lib.hid (BG.out.trans (HB.out.mono BG.out.size))
      have F1 := Lib.hid (FG.out.ext HB.out)
      have hlI : ¬ (l.length : Int) < (l.length : Int) := by omega
      clear HAC HM
      go_wp2_with fail
      rename World => wo
      have hgo : g < wo.heap.size := F1.out.lt
      go_loopg [8] acc.length (fun g2 vj wi => ∃ j : Nat, vj = .int .i64 ((j : Int) + 1) ∧ acc.length - j ≤ g2 ∧ Hid (∀ i, (h : i + 1 < acc.length) → i < j → acc[i].path ≠ acc[i + 1].path) ∧ Hid (Below wo.heap.size wo wi))
      case atStart => exact ⟨0, by go_num, by omega, fun i _ h => absurd h (Nat.not_lt_zero _), Below.refl _ _⟩
      case round =>
        obtain ⟨j, rfl, hg2, HK, HBI⟩ := hrel
        by_cases hj : j + 1 < acc.length
        · obtain ⟨ro, rc, he, hr1, hr2, hrc⟩ := HO.out.row
          injection he with he1 _ he2
          subst he1 he2
          obtain ⟨b2, off2, rfl, hbl2, hcell2⟩ := hrc j (by omega)
          obtain ⟨q0, _, _⟩ := hcell2 j (by omega)
          obtain ⟨p0, _, _⟩ := hcell2 (j + 1) hj
          have q0 := (HBI.out.cell (p := ⟨b2, off2 + j * 3, none⟩) hbl2).trans q0
          have p0 := (HBI.out.cell (p := ⟨b2, off2 + (j + 1) * 3, none⟩) hbl2).trans p0
          have hi1 : (j : Int) + 1 < (acc.length : Int) := by omega
          have hi0 : (j : Int) < (acc.length : Int) := by omega
          have e2 : ((j : Int) + 1).toNat = j + 1 := by omega
          have p2 : (0 : Int) ≤ (j : Int) + 1 := by omega
          have HKS : Hid (acc[j].path ≠ acc[j + 1].path → ∀ i, (h : i + 1 < acc.length) → i < j + 1 → acc[i].path ≠ acc[i + 1].path) := fun hne i h hi => by
            by_cases e : i = j
            · subst e; exact hne
            · exact HK.out i h (by omega)
          have HKB : Hid (acc[j].path = acc[j + 1].path → dupB (isort l) = true) := fun he => by
            rw [← HX.out]; exact dupB_iff.2 ⟨j, hj, he⟩
          clear hcell2 hrc HK
          by_cases hq : acc[j + 1].path = acc[j].path
          · have HY : Hid (sortT l = (⟨7, none⟩, [])) := by show _ = _; unfold sortT; rw [if_pos (HKB.out hq.symm)]
            rw [hq] at p0
            clear HKS HKB HX HO hq HSA
            generalize acc[j].path = pp at q0 p0
            have e0 : (pp.toList == pp.toList) = true := beq_self_eq_true _
            go_wp2_with fail
            go_quiet (fail)
            obtain ⟨w5, hw5⟩ : ∃ w5, wr.drewN nq = w5 := ⟨_, rfl⟩
            have HB5 : Hid (Below wo.heap.size wo w5) := by show Below _ _ _; rw [← hw5]; exact HBI.out.trans ((below_drewN _ _ _).mono HBI.out.size)
            rw [hw5]
            clear hw5 HBI q0 p0
            have C := Lib.hid (refBare_any 7 w5)
            go_wp2_with fail
            refine C.out.mono ?_
            clear C
            rintro e w6 ⟨rfl, hb6⟩
            have HB6 := HB5.out.trans (hb6.mono HB5.out.size)
            have F6 := Lib.hid (F1.out.ext HB6)
            have B6 := Lib.hid (B1.out.trans (HB6.mono B1.out.size))
            obtain ⟨y0, y1, y2, y3⟩ := F6.out.cells
            go_wp2_with fail
            obtain ⟨s0, s1, s2⟩ := fault_end F6.out 7 (-1) w.heap.size hgw
            rw [HY.out]
            refine bodyPost_ret (v := .tuple #[.slice none 0 0, .agg #[.int .i64 7, .int .i64 (-1)]]) ?_ rfl (RPost.fault rfl rfl (FOwn.nil _ _) (B6.out.trans s2))
            simp [results, Tryz.results136, go_sem, s0, s1]
          · have HN2 := Lib.hid (HKS.out (fun e => hq e.symm))
            have e0 : (acc[j + 1].path.toList == acc[j].path.toList) = false := by rw [str_eqb]; exact decide_eq_false hq
            clear HKS HKB hq
            generalize acc[j].path = pp at q0 p0 e0
            generalize acc[j + 1].path = pp2 at q0 p0 e0
            go_wp2_with fail
            go_quiet (fail)
            go_wp2_with fail
            go_roundg (acc.length - (j + 1))
            case measure => omega
            case rel => exact ⟨j + 1, by go_num, Nat.le_refl _, HN2, HBI.out.trans ((below_drewN _ _ _).mono HBI.out.size)⟩
        · have hi1 : ¬ (j : Int) + 1 < (acc.length : Int) := by omega
          have HF : Hid (dupB (isort l) = false) := by
            show _ = _
            rw [← HX.out, Bool.eq_false_iff]
            intro h
            obtain ⟨i, hi, he⟩ := dupB_iff.1 h
            exact HK.out i hi (by omega) he
          have HY : Hid (sortT l = if (treeEr acc).code ≠ 0 then (treeEr acc, []) else (⟨0, none⟩, acc)) := by show _ = _; unfold sortT; rw [if_neg (by rw [HF.out]; simp), HX.out]
          have HOI := Lib.hid (HO.out.ext HBI.out)
          have C := Lib.hid (refTreeFault_any _ acc wr HOI.out.row (by omega) HSA.out)
          have F2 := Lib.hid (F1.out.ext HBI.out)
          have B2 := Lib.hid (B1.out.trans (HBI.out.mono B1.out.size))
          have hgw2 : g < wg.heap.size := hgg
          clear HK HF HO HX
          go_wp2_with fail
          refine C.out.mono ?_
          clear C
          rintro e w1 ⟨rfl, hb1⟩
          have F3 := Lib.hid (F2.out.ext hb1)
          have B3 := Lib.hid (B2.out.trans (hb1.mono B2.out.size))
          have HO3 := Lib.hid (HOI.out.ext hb1)
          obtain ⟨c, hc⟩ : ∃ c, (treeEr acc).code = c := ⟨_, rfl⟩
          obtain ⟨a, ha⟩ : ∃ a : Int, (treeEr acc).at?.getD (-1) = a := ⟨_, rfl⟩
          have HC := Lib.hid hc
          have HA := Lib.hid ha
          rw [show erA (treeEr acc) = #[.int .i64 c, .int .i64 a] by unfold erA; rw [hc, ha]]
          rw [hc] at HY
          obtain ⟨q, hq⟩ : ∃ q, w1.heap.size = q := ⟨_, rfl⟩
          obtain ⟨w2, hw2⟩ : ∃ w2, w1.alloc (.cells #[.int .i64 c, .int .i64 a] 50) = w2 := ⟨_, rfl⟩
          have hal2 : Below w1.heap.size w1 w2 := by rw [← hw2]; exact (Below.refl _ _).alloc (Nat.le_refl _) _
          have FQ := Lib.hid (show FaultAt w2 q c a by rw [← hw2, ← hq]; exact FaultAt.new w1 _ _)
          have F4 := Lib.hid (F3.out.ext hal2)
          have B4 := Lib.hid (B3.out.trans (hal2.mono B3.out.size))
          have HO4 := Lib.hid (HO3.out.ext hal2)
          have HW2 := Lib.hid hw2
          have HQ := Lib.hid hq
          have hgq : g ≠ q := by have := F3.out.lt; omega
          clear hb1 hc ha hal2 hw2 hq F2 B2 F3 B3 HO3 HOI
          obtain ⟨x0, x1, _, _⟩ := FQ.out.cells
          obtain ⟨y0, y1, y2, y3⟩ := F4.out.cells
          go_upto_region 18 with fail
          rw [HW2.out, HQ.out]
          by_cases hz : c = 0
          rotate_left
          · have hpos : (0 : Int) < (c : Int) := by omega
            rw [if_pos hz] at HY
            clear hz
            go_wp2_with fail
            go_region
            all_goals go_wp2_with fail
            obtain ⟨s0, s1, s2⟩ := fault_end F4.out c a w.heap.size hgw
            rw [HY.out]
            refine bodyPost_ret (v := .tuple #[.slice none 0 0, .agg #[.int .i64 c, .int .i64 a]]) ?_ rfl (RPost.fault HC.out HA.out (FOwn.nil _ _) ((B4.out.trans s2).drew))
            have s0' := s0; have s1' := s1
            simp [results, Tryz.results136, go_sem, s0', s1']
          · subst hz
            rw [if_neg (by decide)] at HY
            have C := Lib.hid (refFine_any w2)
            go_wp2_with fail
            refine C.out.mono ?_
            clear C x0 x1 y0 y1 y2 y3
            rintro e w5 ⟨rfl, hb5⟩
            have F5 := Lib.hid (F4.out.ext hb5)
            have B5 := Lib.hid (B4.out.trans (hb5.mono B4.out.size))
            have HO5 := Lib.hid (HO4.out.ext hb5)
            obtain ⟨y0, y1, y2, y3⟩ := F5.out.cells
            go_wp2_with fail
            obtain ⟨s0, s1, s2⟩ := fault_end F5.out 0 (-1) w.heap.size hgw
            rw [HY.out]
            refine bodyPost_ret (v := .tuple #[.slice oo acc.length oc, .agg #[.int .i64 0, .int .i64 (-1)]]) ?_ rfl (RPost.fault rfl rfl (FOwn.low (own_fault HO5.out F5.out hgg 0 (-1)) BG.out.size) (B5.out.trans s2))
            simp [results, Tryz.results136, go_sem, s0, s1]
end Go.Proofs.YtomceddfbfpjjaaGreatDoor

namespace Go.Proofs.YtomceddfbfpjjaaGreatDoor
open Go Go.RowKit

set_option maxHeartbeats 1000000 in
set_option maxRecDepth 100000 in
theorem sameTrees_any {w : World} {v u : Value} {l m : List FileB} (hv : FRow w v l) (hu : FRow w u m) (hn : l.length ≤ 1000000) :
    Calls Tryz.prog 16 #[v, u] w fun e w' => e = .returned (.bool (decide (l = m))) ∧ Below w.heap.size w w' := by
  obtain ⟨ao, cap, rfl, h1, h2, H3⟩ := hv
  obtain ⟨ao2, cap2, rfl, h4, h5, H6⟩ := hu
  have HM := Lib.hid H3
  have HN := Lib.hid H6
  clear H3 H6
  by_cases hlen : l.length = m.length
  · have HL := Lib.hid hlen
    have hn2 : m.length ≤ 1000000 := by omega
    rw [← hlen] at h4 ⊢
    clear hlen
    go_enter Tryz.func16, Tryz.ntmps16
    go_wp2_with fail
    go_loopw [5] (fun i w1 => ∃ k : Nat, k ≤ l.length ∧ i = .int .i64 k ∧ Below w.heap.size w w1 ∧ Hid (l.take k = m.take k)) (fun i _ => l.length - (intOf i).toNat)
    case atStart => exact ⟨0, Nat.zero_le _, rfl, Below.refl _ _, rfl⟩
    case round =>
      obtain ⟨k, hk, rfl, hb, HK⟩ := hrel
      by_cases hlt : k < l.length
      · have hlm : k < m.length := by rw [← HL.out]; exact hlt
        obtain ⟨b, off, rfl, hbl, hcell⟩ := HM.out k hlt
        obtain ⟨b2, off2, rfl, hbl2, hcell2⟩ := HN.out k hlm
        obtain ⟨q0, q1, q2⟩ := hcell k hlt
        obtain ⟨p0, p1, p2⟩ := hcell2 k hlm
        rw [← hb.cell (p := ⟨b, off + k * 3, none⟩) hbl] at q0
        rw [← hb.cell (p := ⟨b, off + k * 3 + 1, none⟩) hbl] at q1
        rw [← hb.cell (p := ⟨b, off + k * 3 + 2, none⟩) hbl] at q2
        rw [← hb.cell (p := ⟨b2, off2 + k * 3, none⟩) hbl2] at p0
        rw [← hb.cell (p := ⟨b2, off2 + k * 3 + 1, none⟩) hbl2] at p1
        rw [← hb.cell (p := ⟨b2, off2 + k * 3 + 2, none⟩) hbl2] at p2
        clear hcell hcell2
        by_cases hq : l[k] = m[k]
        · have HK2 : Hid (l.take (k + 1) = m.take (k + 1)) := by
            show _ = _
            rw [List.take_succ_eq_append_getElem hlt, List.take_succ_eq_append_getElem hlm, HK.out, hq]
          rw [hq] at q0 q1 q2
          clear hq HK
          generalize m[k] = f at q0 q1 q2 p0 p1 p2
          have e0 : (f.path.toList == f.path.toList) = true := beq_self_eq_true _
          have e1 : (f.run == f.run) = true := beq_self_eq_true _
          have e2 : (f.text.toList == f.text.toList) = true := beq_self_eq_true _
          go_wp2_with fail
          go_quiet (fail)
          go_wp2_with fail
          go_roundw
          case rel => exact ⟨k + 1, by omega, by go_num, hb.trans ((below_drewN _ _ _).mono hb.size), HK2⟩
          case measure => simp [intOf]; omega
        · have HX : Hid (decide (l = m) = false) := decide_eq_false (fun e => hq (by simp [e]))
          generalize l[k] = f at q0 q1 q2 hq
          generalize m[k] = g at p0 p1 p2 hq
          have eq0 := str_eqb f.path g.path
          have eq2 := str_eqb f.text g.text
          have hf := (not_congr (file_eq f g)).1 hq
          clear hq HK
          by_cases c0 : f.path = g.path
          · rw [decide_eq_true c0] at eq0
            by_cases c2 : f.text = g.text
            · rw [decide_eq_true c2] at eq2
              have eq1 : (f.run == g.run) = false := beq_eq_false_iff_ne.2 (fun e => hf ⟨c0, e, c2⟩)
              clear hf c0 c2
              go_wp2_with fail
              go_quiet (fail)
              go_wp2_with fail
              go_ret
              exact ⟨congrArg (fun b => Ending.returned (.bool b)) HX.out.symm, hb.trans ((below_drewN _ _ _).mono hb.size)⟩
            · rw [decide_eq_false c2] at eq2
              clear hf c0 c2
              go_wp2_with fail
              go_quiet (fail)
              go_wp2_with fail
              go_ret
              exact ⟨congrArg (fun b => Ending.returned (.bool b)) HX.out.symm, hb.trans ((below_drewN _ _ _).mono hb.size)⟩
          · rw [decide_eq_false c0] at eq0
            clear hf c0
            go_wp2_with fail
            go_quiet (fail)
            go_wp2_with fail
            go_ret
            exact ⟨congrArg (fun b => Ending.returned (.bool b)) HX.out.symm, hb.trans ((below_drewN _ _ _).mono hb.size)⟩
      · obtain rfl : k = l.length := by omega
        have HX : Hid (decide (l = m) = true) := decide_eq_true (by
          have := HK.out
          rwa [List.take_length, HL.out, List.take_length] at this)
        go_wp2_with fail
        go_ret
        exact ⟨congrArg (fun b => Ending.returned (.bool b)) HX.out.symm, hb⟩
  · have HX : Hid (decide (l = m) = false) := decide_eq_false (fun e => hlen (by rw [e]))
    have hi : ((l.length : Int) != (m.length : Int)) = true := by simp; omega
    clear hlen
    go_enter Tryz.func16, Tryz.ntmps16
    go_wp2_with fail
    go_ret
    exact ⟨congrArg (fun b => Ending.returned (.bool b)) HX.out.symm, Below.refl _ _⟩
end Go.Proofs.YtomceddfbfpjjaaGreatDoor
