/- The reference's TreeFault: the contract. The reference's PackText: the contract. The reference's PackOf: the contract. The reference's TreeSum: the contract. The reference's ReadPack: the contract. -/
import Derived.Test.YtgchgdkpipanjaaGreatDoorJTold
import Derived.Test.YtgchgdkpipanjaaGreatDoorJTreed
import Derived.Test.YtgchgdkpipanjaaGreatDoorJRefPathed
import Derived.Test.YtgchgdkpipanjaaGreatDoorJPackedUp
import Derived.Test.YtgchgdkpipanjaaGreatDoorJTexts
import Derived.Test.YtgchgdkpipanjaaGreatDoorJSummed
import Derived.Test.YtgchgdkpipanjaaGreatDoorJReadPlainly
import Derived.Test.YtgchgdkpipanjaaGreatDoorJPackReads
import Derived.Test.YtgchgdkpipanjaaGreatDoorJFiles
import Derived.Test.YtgchgdkpipanjaaGreatDoorJRowed
namespace Go.Proofs.YtgchgdkpipanjaaGreatDoor
open Go Go.RowKit

/-- What TreeFault hands back. -/
def RTPost (l : List FileB) (w : World) (e : Ending) (w' : World) : Prop := e = .returned (.agg (erA (treeEr l))) ∧ Below w.heap.size w w'
/-- Between the files ahead: no error yet, or the file's. -/
def FSt (ahead : List FileB) (f : FileB) (ec q : Nat) : Prop := (ec = 0 ∧ fileE ahead f = if (ahead.drop q).any (fun g => inB (bl f.path) (bl g.path)) = true then 11 else 0) ∨ (ec ≠ 0 ∧ fileE ahead f = ec)

set_option maxHeartbeats 4000000 in
set_option maxRecDepth 100000 in
theorem refTreeFault_any (v : Value) (l : List FileB) (w : World) (hv : FRow w v l) (hl : l.length ≤ 10000) (hS : ∀ f ∈ l, SmallF f) :
    Calls Tryz.prog 119 #[v] w (RTPost l w) := by
  obtain ⟨ao, cap, rfl, h1, h2, H3⟩ := hv
  have HM := Lib.hid H3
  have HSM := Lib.hid hS
  clear H3 hS
  obtain ⟨g, hg⟩ : ∃ g, w.heap.size = g := ⟨_, rfl⟩
  obtain ⟨wg, hwg⟩ : ∃ wg, w.alloc (.cells #[.int .i64 0, .int .i64 0] 59) = wg := ⟨_, rfl⟩
  have hal : Below w.heap.size w wg := by rw [← hwg]; exact (Below.refl _ _).alloc (Nat.le_refl _) _
  have hA : wg.heap[g]? = some (.cells #[.int .i64 0, .int .i64 0] 59 (0, 0)) := by rw [← hwg, ← hg]; exact heap_alloc_new _ _
  have HGB := Lib.hid hA
  have hgl : g < wg.heap.size := (Array.getElem?_eq_some_iff.1 hA).1
  obtain ⟨B, hB⟩ : ∃ B, wg.heap.size = B := ⟨_, rfl⟩
  have hBw : B ≤ wg.heap.size := Nat.le_of_eq hB.symm
  have hwB : w.heap.size ≤ B := by rw [← hB]; exact hal.size
  have hgB : g < B := by rw [← hB]; exact hgl
  have hgw : w.heap.size ≤ g := Nat.le_of_eq hg
  have HBW := Lib.hid hal
  have HWA := Lib.hid hwg
  have HPA := Lib.hid hg
  clear hal hA hB hwg hg hgl
  go_enter Tryz.func119, Tryz.ntmps119
  by_cases h30 : l.length ≤ 30
  · have hm30 : decide ((30 : Int) < (l.length : Int)) = false := decide_eq_false (by omega)
    go_wp2_with fail
    rw [HWA.out, HPA.out]
    go_loopw [3, 4] (fun sv i wr => ∃ k : Nat, k ≤ l.length ∧ i = .int .i64 k ∧ sv = .int .i64 (allText (l.take k) : Nat) ∧ allText (l.take k) ≤ 100000 * k ∧ Hid (filesE [] 0 l = filesE (l.take k) k (l.drop k)) ∧ Below B wg wr) (fun _ i _ => l.length - (intOf i).toNat)
    case atStart => exact ⟨0, Nat.zero_le _, rfl, rfl, Nat.zero_le _, rfl, Below.refl _ _⟩
    case round =>
      obtain ⟨k, hk, rfl, rfl, hall, HF, hb⟩ := hrel
      have hbw : Below w.heap.size w wr := HBW.out.trans (hb.mono hwB)
      by_cases hlt : k < l.length
      · obtain ⟨b, off, rfl, hbl, hcell⟩ := HM.out k hlt
        have HCE := Lib.hid hcell
        obtain ⟨d0, d1, d2⟩ := hcell k hlt
        have sz := HSM.out l[k] (List.getElem_mem hlt)
        have HTK : Hid (l.take (k + 1) = l.take k ++ [l[k]]) := by show _ = _; rw [List.take_add_one, List.getElem?_eq_getElem hlt]; rfl
        have HAT := Lib.hid (fun c => treeEr_at (c := c) h30 hlt HF.out)
        have HST := Lib.hid (filesE_step hlt)
        clear hcell d1
        obtain ⟨f, hf⟩ : ∃ f, l[k] = f := ⟨_, rfl⟩
        rw [hf] at d0 d2 sz HTK HAT HST
        clear hf
        have cl1 := (hbw.cell (p := ⟨b, off + k * 3, none⟩) hbl).trans d0
        have cl2 := (hbw.cell (p := ⟨b, off + k * 3 + 2, none⟩) hbl).trans d2
        have C := Lib.hid (refPathError_any f.path wr (by have := sz.1; omega))
        go_wp2_with fail
        refine C.out.mono ?_
        clear C
        rintro e w1 ⟨rfl, hbx⟩
        have hb1 := hb.trans (hbx.mono (Nat.le_trans hBw hb.size))
        have hbw1 : Below w.heap.size w w1 := HBW.out.trans (hb1.mono hwB)
        have k1 := (hbw1.cell (p := ⟨b, off + k * 3, none⟩) hbl).trans d0
        have k2 := (hbw1.cell (p := ⟨b, off + k * 3 + 2, none⟩) hbl).trans d2
        clear cl1 cl2 hbx hb hbw
        have hle := partsE_le (bl f.path)
        obtain ⟨c, hc⟩ : ∃ c, partsE (bl f.path) = c := ⟨_, rfl⟩
        rw [hc] at hle ⊢
        have HC := Lib.hid hc
        clear hc
        cases c with
        | succ c =>
          have HEN : Hid (FSt (l.take k) f (c + 1) 0) := .inr ⟨by omega, by unfold fileE; rw [if_pos (by rw [HC.out]; omega), HC.out]⟩
          go_wp2_with fail
          go_loopw [5, 6, 7] (fun ev ki _ wq => ∃ (q : Nat) (ec : Nat), q ≤ k ∧ ki = .int .i64 q ∧ ev = .int .i64 ec ∧ Hid (FSt (l.take k) f ec q) ∧ Below B wg wq) (fun _ i _ _ => k + 1 - (intOf i).toNat)
          case atStart => exact ⟨0, c + 1, Nat.zero_le _, rfl, rfl, HEN, hb1⟩
          case round =>
            obtain ⟨q, ec, hq, rfl, rfl, HO, hbq⟩ := hrel
            have hbwq : Below w.heap.size w wr := HBW.out.trans (hbq.mono hwB)
            have cl1 := (hbwq.cell (p := ⟨b, off + k * 3, none⟩) hbl).trans d0
            have cl2 := (hbwq.cell (p := ⟨b, off + k * 3 + 2, none⟩) hbl).trans d2
            by_cases hec : ec = 0
            · subst hec
              have HO2 : Hid (fileE (l.take k) f = if ((l.take k).drop q).any (fun g => inB (bl f.path) (bl g.path)) = true then 11 else 0) := by
                rcases HO.out with h | h
                · exact h.2
                · exact absurd rfl h.1
              clear HO
              by_cases hqt : q < k
              · obtain ⟨x0, _, _⟩ := HCE.out q (by omega)
                have cl4 := (hbwq.cell (p := ⟨b, off + q * 3, none⟩) hbl).trans x0
                have sg := (HSM.out (l[q]'(by omega)) (List.getElem_mem _)).1
                have HD : Hid ((l.take k).drop q = (l[q]'(by omega)) :: (l.take k).drop (q + 1)) := by
                  show _ = _
                  rw [List.drop_eq_getElem_cons (by rw [List.length_take]; omega), List.getElem_take]
                clear x0
                generalize (l[q]'(by omega)) = gg at cl4 sg HD
                have C := Lib.hid (refIsIn_any f.path gg.path wr.drew (by have := sz.1; omega) (by omega))
                have hqk1 : decide (q < k) = true := decide_eq_true hqt
                have hql : (q : Int) < (l.length : Int) := by omega
                have hkl2 : (k : Int) < (l.length : Int) := by omega
                go_wp2_with fail
                go_region_held3 (fun W : World => W.cell? ⟨b, off + k * 3, none⟩ = some (.string f.path) ∧ W.cell? ⟨b, off + q * 3, none⟩ = some (.string gg.path)) (first | exact ⟨y1, y4⟩ | exact ⟨cl1, cl4⟩)
                  (first
                    | (go_at_call 165; refine C.out.mono ?_; rintro e w4 ⟨rfl, hb4⟩; have y1 := (hb4.cell (p := ⟨b, off + k * 3, none⟩) (World.block_lt_of_cell? _ _ cl1)).trans cl1; have y4 := (hb4.cell (p := ⟨b, off + q * 3, none⟩) (World.block_lt_of_cell? _ _ cl4)).trans cl4))
                have hb5 : Below B wg w4 := (hbq.trans (below_drewN _ _ 1)).trans (hb4.mono (Nat.le_trans hBw hbq.size))
                have HO3 : Hid (FSt (l.take k) f (if inB (bl f.path) (bl gg.path) = true then 11 else 0) (q + 1)) := by
                  show FSt _ _ _ _
                  unfold FSt
                  rw [HO2.out, HD.out, List.any_cons]
                  by_cases h : inB (bl f.path) (bl gg.path) = true
                  · rw [h]; exact .inr ⟨by simp, by simp⟩
                  · rw [Bool.not_eq_true] at h
                    rw [h]; exact .inl ⟨rfl, by simp⟩
                clear C hqk1 hql hkl2 HO2 HD cl1 cl2 cl4 y1 y4 hb4
                cases hin : inB (bl f.path) (bl gg.path) with
                | true =>
                  rw [hin, if_pos rfl] at HO3
                  clear hin
                  go_wp2_with fail
                  go_roundw
                  case rel => exact ⟨q + 1, 11, by omega, by go_num, rfl, HO3, hb5⟩
                  case measure => simp [intOf]; omega
                | false =>
                  rw [hin, if_neg (by simp)] at HO3
                  clear hin
                  go_wp2_with fail
                  go_roundw
                  case rel => exact ⟨q + 1, 0, by omega, by go_num, rfl, HO3, hb5⟩
                  case measure => simp [intOf]; omega
              · obtain rfl : q = k := by omega
                have h0 : fileE (l.take q) f = 0 := by rw [HO2.out, List.drop_of_length_le (by rw [List.length_take]; omega)]; rfl
                have HF2 : Hid (filesE [] 0 l = filesE (l.take (q + 1)) (q + 1) (l.drop (q + 1))) := by
                  show _ = _
                  rw [HF.out, HST.out, if_pos h0]
                have HAL : Hid (allText (l.take (q + 1)) = allText (l.take q) + f.text.size) := by show _ = _; rw [HTK.out, allText_snoc]
                have hqq : decide (q < q) = false := decide_eq_false (by omega)
                have hts : f.text.size ≤ 100000 := sz.2
                clear h0 HO2 HF HST HTK
                go_wp2_with fail
                go_roundw
                case rel => exact ⟨q + 1, by omega, by go_num, by rw [HAL.out]; go_num, by rw [HAL.out]; omega, HF2, hbq⟩
                case measure => simp [intOf]; omega
            · have hec1 : 0 < ec := Nat.pos_of_ne_zero hec
              have HO2 : Hid (fileE (l.take k) f = ec) := by
                rcases HO.out with h | h
                · exact absurd h.1 hec
                · exact h.2
              obtain ⟨ec', rfl⟩ : ∃ ec', ec = ec' + 1 := ⟨ec - 1, by omega⟩
              have HY := Lib.hid (HAT.out ec' HO2.out)
              have he0 : (((ec' : Int) + 1) == 0) = false := by simpa using (by omega : (ec' : Int) + 1 ≠ 0)
              have hg0 : wr.heap[g]? = some (.cells #[.int .i64 0, .int .i64 0] 59 (0, 0)) := (hbq.block g hgB).trans HGB.out
              have f0 : wr.frozen? ⟨g, 0, none⟩ = false := Lib.frozen_of_heap hg0 0
              have f1 : wr.frozen? ⟨g, 1, none⟩ = false := Lib.frozen_of_heap hg0 1
              have e0 : wr.cell? ⟨g, 0, none⟩ = some (.int .i64 0) := by rw [Lib.cell_of_heap hg0]; rfl
              have e1 : wr.cell? ⟨g, 1, none⟩ = some (.int .i64 0) := by rw [Lib.cell_of_heap hg0]; rfl
              obtain ⟨s0, s1, s2⟩ := fault_store hg0 (.int .i64 ((ec' : Int) + 1)) (.int .i64 k) hgw
              have S0 := Lib.hid s0
              have S1 := Lib.hid s1
              have S2 := Lib.hid s2
              clear hg0 s0 s1 s2 HO HO2 hec
              go_wp2_with fail
              all_goals exact bodyPost_ret (v := .agg #[.int .i64 ((ec' : Int) + 1), .int .i64 k]) (by simp [results, Tryz.results119, go_sem, S0.out, S1.out]) rfl ⟨by rw [HY.out]; rfl, hbwq.trans S2.out⟩
        | zero =>
          by_cases ht : 4000 < f.text.size
          · have HEN : Hid (FSt (l.take k) f 2 0) := .inr ⟨by omega, by unfold fileE; rw [if_neg (by rw [HC.out]; simp), if_pos ht]⟩
            have hmt : decide ((4000 : Int) < (f.text.size : Int)) = true := decide_eq_true (by omega)
            go_wp2_with fail
            go_loopw [5, 6, 7] (fun ev ki _ wq => ∃ (q : Nat) (ec : Nat), q ≤ k ∧ ki = .int .i64 q ∧ ev = .int .i64 ec ∧ Hid (FSt (l.take k) f ec q) ∧ Below B wg wq) (fun _ i _ _ => k + 1 - (intOf i).toNat)
            case atStart => exact ⟨0, 2, Nat.zero_le _, rfl, rfl, HEN, hb1⟩
            case round =>
              obtain ⟨q, ec, hq, rfl, rfl, HO, hbq⟩ := hrel
              have hbwq : Below w.heap.size w wr := HBW.out.trans (hbq.mono hwB)
              have cl1 := (hbwq.cell (p := ⟨b, off + k * 3, none⟩) hbl).trans d0
              have cl2 := (hbwq.cell (p := ⟨b, off + k * 3 + 2, none⟩) hbl).trans d2
              by_cases hec : ec = 0
              · subst hec
                have HO2 : Hid (fileE (l.take k) f = if ((l.take k).drop q).any (fun g => inB (bl f.path) (bl g.path)) = true then 11 else 0) := by
                  rcases HO.out with h | h
                  · exact h.2
                  · exact absurd rfl h.1
                clear HO
                by_cases hqt : q < k
                · obtain ⟨x0, _, _⟩ := HCE.out q (by omega)
                  have cl4 := (hbwq.cell (p := ⟨b, off + q * 3, none⟩) hbl).trans x0
                  have sg := (HSM.out (l[q]'(by omega)) (List.getElem_mem _)).1
                  have HD : Hid ((l.take k).drop q = (l[q]'(by omega)) :: (l.take k).drop (q + 1)) := by
                    show _ = _
                    rw [List.drop_eq_getElem_cons (by rw [List.length_take]; omega), List.getElem_take]
                  clear x0
                  generalize (l[q]'(by omega)) = gg at cl4 sg HD
                  have C := Lib.hid (refIsIn_any f.path gg.path wr.drew (by have := sz.1; omega) (by omega))
                  have hqk1 : decide (q < k) = true := decide_eq_true hqt
                  have hql : (q : Int) < (l.length : Int) := by omega
                  have hkl2 : (k : Int) < (l.length : Int) := by omega
                  go_wp2_with fail
                  go_region_held3 (fun W : World => W.cell? ⟨b, off + k * 3, none⟩ = some (.string f.path) ∧ W.cell? ⟨b, off + q * 3, none⟩ = some (.string gg.path)) (first | exact ⟨y1, y4⟩ | exact ⟨cl1, cl4⟩)
                    (first
                      | (go_at_call 165; refine C.out.mono ?_; rintro e w4 ⟨rfl, hb4⟩; have y1 := (hb4.cell (p := ⟨b, off + k * 3, none⟩) (World.block_lt_of_cell? _ _ cl1)).trans cl1; have y4 := (hb4.cell (p := ⟨b, off + q * 3, none⟩) (World.block_lt_of_cell? _ _ cl4)).trans cl4))
                  have hb5 : Below B wg w4 := (hbq.trans (below_drewN _ _ 1)).trans (hb4.mono (Nat.le_trans hBw hbq.size))
                  have HO3 : Hid (FSt (l.take k) f (if inB (bl f.path) (bl gg.path) = true then 11 else 0) (q + 1)) := by
                    show FSt _ _ _ _
                    unfold FSt
                    rw [HO2.out, HD.out, List.any_cons]
                    by_cases h : inB (bl f.path) (bl gg.path) = true
                    · rw [h]; exact .inr ⟨by simp, by simp⟩
                    · rw [Bool.not_eq_true] at h
                      rw [h]; exact .inl ⟨rfl, by simp⟩
                  clear C hqk1 hql hkl2 HO2 HD cl1 cl2 cl4 y1 y4 hb4
                  cases hin : inB (bl f.path) (bl gg.path) with
                  | true =>
                    rw [hin, if_pos rfl] at HO3
                    clear hin
                    go_wp2_with fail
                    go_roundw
                    case rel => exact ⟨q + 1, 11, by omega, by go_num, rfl, HO3, hb5⟩
                    case measure => simp [intOf]; omega
                  | false =>
                    rw [hin, if_neg (by simp)] at HO3
                    clear hin
                    go_wp2_with fail
                    go_roundw
                    case rel => exact ⟨q + 1, 0, by omega, by go_num, rfl, HO3, hb5⟩
                    case measure => simp [intOf]; omega
                · obtain rfl : q = k := by omega
                  have h0 : fileE (l.take q) f = 0 := by rw [HO2.out, List.drop_of_length_le (by rw [List.length_take]; omega)]; rfl
                  have HF2 : Hid (filesE [] 0 l = filesE (l.take (q + 1)) (q + 1) (l.drop (q + 1))) := by
                    show _ = _
                    rw [HF.out, HST.out, if_pos h0]
                  have HAL : Hid (allText (l.take (q + 1)) = allText (l.take q) + f.text.size) := by show _ = _; rw [HTK.out, allText_snoc]
                  have hqq : decide (q < q) = false := decide_eq_false (by omega)
                  have hts : f.text.size ≤ 100000 := sz.2
                  clear h0 HO2 HF HST HTK
                  go_wp2_with fail
                  go_roundw
                  case rel => exact ⟨q + 1, by omega, by go_num, by rw [HAL.out]; go_num, by rw [HAL.out]; omega, HF2, hbq⟩
                  case measure => simp [intOf]; omega
              · have hec1 : 0 < ec := Nat.pos_of_ne_zero hec
                have HO2 : Hid (fileE (l.take k) f = ec) := by
                  rcases HO.out with h | h
                  · exact absurd h.1 hec
                  · exact h.2
                obtain ⟨ec', rfl⟩ : ∃ ec', ec = ec' + 1 := ⟨ec - 1, by omega⟩
                have HY := Lib.hid (HAT.out ec' HO2.out)
                have he0 : (((ec' : Int) + 1) == 0) = false := by simpa using (by omega : (ec' : Int) + 1 ≠ 0)
                have hg0 : wr.heap[g]? = some (.cells #[.int .i64 0, .int .i64 0] 59 (0, 0)) := (hbq.block g hgB).trans HGB.out
                have f0 : wr.frozen? ⟨g, 0, none⟩ = false := Lib.frozen_of_heap hg0 0
                have f1 : wr.frozen? ⟨g, 1, none⟩ = false := Lib.frozen_of_heap hg0 1
                have e0 : wr.cell? ⟨g, 0, none⟩ = some (.int .i64 0) := by rw [Lib.cell_of_heap hg0]; rfl
                have e1 : wr.cell? ⟨g, 1, none⟩ = some (.int .i64 0) := by rw [Lib.cell_of_heap hg0]; rfl
                obtain ⟨s0, s1, s2⟩ := fault_store hg0 (.int .i64 ((ec' : Int) + 1)) (.int .i64 k) hgw
                have S0 := Lib.hid s0
                have S1 := Lib.hid s1
                have S2 := Lib.hid s2
                clear hg0 s0 s1 s2 HO HO2 hec
                go_wp2_with fail
                all_goals exact bodyPost_ret (v := .agg #[.int .i64 ((ec' : Int) + 1), .int .i64 k]) (by simp [results, Tryz.results119, go_sem, S0.out, S1.out]) rfl ⟨by rw [HY.out]; rfl, hbwq.trans S2.out⟩
          · have hmt : decide ((4000 : Int) < (f.text.size : Int)) = false := decide_eq_false (by omega)
            by_cases hk0 : k = 0
            · have HEN : Hid (FSt (l.take k) f 0 0) := .inl ⟨rfl, by unfold fileE; rw [if_neg (by rw [HC.out]; simp), if_neg ht, if_neg (by rw [hk0]; simp [afterB])]; rfl⟩
              have hd0 : decide (0 < k) = false := decide_eq_false (by omega)
              have hkz : k ≤ 0 := by omega
              clear hk0
              go_wp2_with fail
              go_loopw [5, 6, 7] (fun ev ki _ wq => ∃ (q : Nat) (ec : Nat), q ≤ k ∧ ki = .int .i64 q ∧ ev = .int .i64 ec ∧ Hid (FSt (l.take k) f ec q) ∧ Below B wg wq) (fun _ i _ _ => k + 1 - (intOf i).toNat)
              case atStart => exact ⟨0, 0, Nat.zero_le _, rfl, rfl, HEN, hb1⟩
              case round =>
                obtain ⟨q, ec, hq, rfl, rfl, HO, hbq⟩ := hrel
                have hbwq : Below w.heap.size w wr := HBW.out.trans (hbq.mono hwB)
                have cl1 := (hbwq.cell (p := ⟨b, off + k * 3, none⟩) hbl).trans d0
                have cl2 := (hbwq.cell (p := ⟨b, off + k * 3 + 2, none⟩) hbl).trans d2
                by_cases hec : ec = 0
                · subst hec
                  have HO2 : Hid (fileE (l.take k) f = if ((l.take k).drop q).any (fun g => inB (bl f.path) (bl g.path)) = true then 11 else 0) := by
                    rcases HO.out with h | h
                    · exact h.2
                    · exact absurd rfl h.1
                  clear HO
                  by_cases hqt : q < k
                  · obtain ⟨x0, _, _⟩ := HCE.out q (by omega)
                    have cl4 := (hbwq.cell (p := ⟨b, off + q * 3, none⟩) hbl).trans x0
                    have sg := (HSM.out (l[q]'(by omega)) (List.getElem_mem _)).1
                    have HD : Hid ((l.take k).drop q = (l[q]'(by omega)) :: (l.take k).drop (q + 1)) := by
                      show _ = _
                      rw [List.drop_eq_getElem_cons (by rw [List.length_take]; omega), List.getElem_take]
                    clear x0
                    generalize (l[q]'(by omega)) = gg at cl4 sg HD
                    have C := Lib.hid (refIsIn_any f.path gg.path wr.drew (by have := sz.1; omega) (by omega))
                    have hqk1 : decide (q < k) = true := decide_eq_true hqt
                    have hql : (q : Int) < (l.length : Int) := by omega
                    have hkl2 : (k : Int) < (l.length : Int) := by omega
                    go_wp2_with fail
                    go_region_held3 (fun W : World => W.cell? ⟨b, off + k * 3, none⟩ = some (.string f.path) ∧ W.cell? ⟨b, off + q * 3, none⟩ = some (.string gg.path)) (first | exact ⟨y1, y4⟩ | exact ⟨cl1, cl4⟩)
                      (first
                        | (go_at_call 165; refine C.out.mono ?_; rintro e w4 ⟨rfl, hb4⟩; have y1 := (hb4.cell (p := ⟨b, off + k * 3, none⟩) (World.block_lt_of_cell? _ _ cl1)).trans cl1; have y4 := (hb4.cell (p := ⟨b, off + q * 3, none⟩) (World.block_lt_of_cell? _ _ cl4)).trans cl4))
                    have hb5 : Below B wg w4 := (hbq.trans (below_drewN _ _ 1)).trans (hb4.mono (Nat.le_trans hBw hbq.size))
                    have HO3 : Hid (FSt (l.take k) f (if inB (bl f.path) (bl gg.path) = true then 11 else 0) (q + 1)) := by
                      show FSt _ _ _ _
                      unfold FSt
                      rw [HO2.out, HD.out, List.any_cons]
                      by_cases h : inB (bl f.path) (bl gg.path) = true
                      · rw [h]; exact .inr ⟨by simp, by simp⟩
                      · rw [Bool.not_eq_true] at h
                        rw [h]; exact .inl ⟨rfl, by simp⟩
                    clear C hqk1 hql hkl2 HO2 HD cl1 cl2 cl4 y1 y4 hb4
                    cases hin : inB (bl f.path) (bl gg.path) with
                    | true =>
                      rw [hin, if_pos rfl] at HO3
                      clear hin
                      go_wp2_with fail
                      go_roundw
                      case rel => exact ⟨q + 1, 11, by omega, by go_num, rfl, HO3, hb5⟩
                      case measure => simp [intOf]; omega
                    | false =>
                      rw [hin, if_neg (by simp)] at HO3
                      clear hin
                      go_wp2_with fail
                      go_roundw
                      case rel => exact ⟨q + 1, 0, by omega, by go_num, rfl, HO3, hb5⟩
                      case measure => simp [intOf]; omega
                  · obtain rfl : q = k := by omega
                    have h0 : fileE (l.take q) f = 0 := by rw [HO2.out, List.drop_of_length_le (by rw [List.length_take]; omega)]; rfl
                    have HF2 : Hid (filesE [] 0 l = filesE (l.take (q + 1)) (q + 1) (l.drop (q + 1))) := by
                      show _ = _
                      rw [HF.out, HST.out, if_pos h0]
                    have HAL : Hid (allText (l.take (q + 1)) = allText (l.take q) + f.text.size) := by show _ = _; rw [HTK.out, allText_snoc]
                    have hqq : decide (q < q) = false := decide_eq_false (by omega)
                    have hts : f.text.size ≤ 100000 := sz.2
                    clear h0 HO2 HF HST HTK
                    go_wp2_with fail
                    go_roundw
                    case rel => exact ⟨q + 1, by omega, by go_num, by rw [HAL.out]; go_num, by rw [HAL.out]; omega, HF2, hbq⟩
                    case measure => simp [intOf]; omega
                · have hec1 : 0 < ec := Nat.pos_of_ne_zero hec
                  have HO2 : Hid (fileE (l.take k) f = ec) := by
                    rcases HO.out with h | h
                    · exact absurd h.1 hec
                    · exact h.2
                  obtain ⟨ec', rfl⟩ : ∃ ec', ec = ec' + 1 := ⟨ec - 1, by omega⟩
                  have HY := Lib.hid (HAT.out ec' HO2.out)
                  have he0 : (((ec' : Int) + 1) == 0) = false := by simpa using (by omega : (ec' : Int) + 1 ≠ 0)
                  have hg0 : wr.heap[g]? = some (.cells #[.int .i64 0, .int .i64 0] 59 (0, 0)) := (hbq.block g hgB).trans HGB.out
                  have f0 : wr.frozen? ⟨g, 0, none⟩ = false := Lib.frozen_of_heap hg0 0
                  have f1 : wr.frozen? ⟨g, 1, none⟩ = false := Lib.frozen_of_heap hg0 1
                  have e0 : wr.cell? ⟨g, 0, none⟩ = some (.int .i64 0) := by rw [Lib.cell_of_heap hg0]; rfl
                  have e1 : wr.cell? ⟨g, 1, none⟩ = some (.int .i64 0) := by rw [Lib.cell_of_heap hg0]; rfl
                  obtain ⟨s0, s1, s2⟩ := fault_store hg0 (.int .i64 ((ec' : Int) + 1)) (.int .i64 k) hgw
                  have S0 := Lib.hid s0
                  have S1 := Lib.hid s1
                  have S2 := Lib.hid s2
                  clear hg0 s0 s1 s2 HO HO2 hec
                  go_wp2_with fail
                  all_goals exact bodyPost_ret (v := .agg #[.int .i64 ((ec' : Int) + 1), .int .i64 k]) (by simp [results, Tryz.results119, go_sem, S0.out, S1.out]) rfl ⟨by rw [HY.out]; rfl, hbwq.trans S2.out⟩
            · have hlast := take_last (l := l) (k := k) (by omega) hk
              have hq := (HCE.out (k - 1) (by omega)).1
              have p0 := (hbw1.cell (p := ⟨b, off + (k - 1) * 3, none⟩) hbl).trans hq
              obtain ⟨gl, hgl⟩ : ∃ g, l[k - 1]'(by omega) = g := ⟨_, rfl⟩
              rw [hgl] at hlast p0
              clear hq hgl
              have hwr : IntKind.i64.wrap ((k : Int) - 1) = ((k - 1 : Nat) : Int) := by rw [IntWalk.i64_in _ (by omega)]; omega
              have hd0 : decide (0 < k) = true := decide_eq_true (by omega)
              have hkl : ((k - 1 : Nat) : Int) < (l.length : Int) := by omega
              have hkl2 : (k : Int) < (l.length : Int) := by omega
              go_wp2_with fail
              go_quiet (fail)
              clear hwr hkl hkl2 p0
              obtain ⟨lq, hlq⟩ : ∃ lq, (Op.bytesLess f.path.toList gl.path.toList || f.path.toList == gl.path.toList) = lq := ⟨_, rfl⟩
              rw [hlq]
              have HL : Hid (afterB (l.take k) (bl f.path) = lq) := by
                show _ = _
                rw [afterB_some hlast, ← hlq]
                unfold leqB
                rw [toList_bl, toList_bl]
              have hb2 : Below B wg (w1.drewN nq) := hb1.trans (below_drewN _ _ _)
              clear hlq hlast
              cases lq with
              | true =>
                have HEN : Hid (FSt (l.take k) f 9 0) := .inr ⟨by omega, by unfold fileE; rw [if_neg (by rw [HC.out]; simp), if_neg ht, if_pos HL.out]⟩
                go_wp2_with fail
                go_loopw [5, 6, 7] (fun ev ki _ wq => ∃ (q : Nat) (ec : Nat), q ≤ k ∧ ki = .int .i64 q ∧ ev = .int .i64 ec ∧ Hid (FSt (l.take k) f ec q) ∧ Below B wg wq) (fun _ i _ _ => k + 1 - (intOf i).toNat)
                case atStart => exact ⟨0, 9, Nat.zero_le _, rfl, rfl, HEN, hb2⟩
                case round =>
                  obtain ⟨q, ec, hq, rfl, rfl, HO, hbq⟩ := hrel
                  have hbwq : Below w.heap.size w wr := HBW.out.trans (hbq.mono hwB)
                  have cl1 := (hbwq.cell (p := ⟨b, off + k * 3, none⟩) hbl).trans d0
                  have cl2 := (hbwq.cell (p := ⟨b, off + k * 3 + 2, none⟩) hbl).trans d2
                  by_cases hec : ec = 0
                  · subst hec
                    have HO2 : Hid (fileE (l.take k) f = if ((l.take k).drop q).any (fun g => inB (bl f.path) (bl g.path)) = true then 11 else 0) := by
                      rcases HO.out with h | h
                      · exact h.2
                      · exact absurd rfl h.1
                    clear HO
                    by_cases hqt : q < k
                    · obtain ⟨x0, _, _⟩ := HCE.out q (by omega)
                      have cl4 := (hbwq.cell (p := ⟨b, off + q * 3, none⟩) hbl).trans x0
                      have sg := (HSM.out (l[q]'(by omega)) (List.getElem_mem _)).1
                      have HD : Hid ((l.take k).drop q = (l[q]'(by omega)) :: (l.take k).drop (q + 1)) := by
                        show _ = _
                        rw [List.drop_eq_getElem_cons (by rw [List.length_take]; omega), List.getElem_take]
                      clear x0
                      generalize (l[q]'(by omega)) = gg at cl4 sg HD
                      have C := Lib.hid (refIsIn_any f.path gg.path wr.drew (by have := sz.1; omega) (by omega))
                      have hqk1 : decide (q < k) = true := decide_eq_true hqt
                      have hql : (q : Int) < (l.length : Int) := by omega
                      have hkl2 : (k : Int) < (l.length : Int) := by omega
                      go_wp2_with fail
                      go_region_held3 (fun W : World => W.cell? ⟨b, off + k * 3, none⟩ = some (.string f.path) ∧ W.cell? ⟨b, off + q * 3, none⟩ = some (.string gg.path)) (first | exact ⟨y1, y4⟩ | exact ⟨cl1, cl4⟩)
                        (first
                          | (go_at_call 165; refine C.out.mono ?_; rintro e w4 ⟨rfl, hb4⟩; have y1 := (hb4.cell (p := ⟨b, off + k * 3, none⟩) (World.block_lt_of_cell? _ _ cl1)).trans cl1; have y4 := (hb4.cell (p := ⟨b, off + q * 3, none⟩) (World.block_lt_of_cell? _ _ cl4)).trans cl4))
                      have hb5 : Below B wg w4 := (hbq.trans (below_drewN _ _ 1)).trans (hb4.mono (Nat.le_trans hBw hbq.size))
                      have HO3 : Hid (FSt (l.take k) f (if inB (bl f.path) (bl gg.path) = true then 11 else 0) (q + 1)) := by
                        show FSt _ _ _ _
                        unfold FSt
                        rw [HO2.out, HD.out, List.any_cons]
                        by_cases h : inB (bl f.path) (bl gg.path) = true
                        · rw [h]; exact .inr ⟨by simp, by simp⟩
                        · rw [Bool.not_eq_true] at h
                          rw [h]; exact .inl ⟨rfl, by simp⟩
                      clear C hqk1 hql hkl2 HO2 HD cl1 cl2 cl4 y1 y4 hb4
                      cases hin : inB (bl f.path) (bl gg.path) with
                      | true =>
                        rw [hin, if_pos rfl] at HO3
                        clear hin
                        go_wp2_with fail
                        go_roundw
                        case rel => exact ⟨q + 1, 11, by omega, by go_num, rfl, HO3, hb5⟩
                        case measure => simp [intOf]; omega
                      | false =>
                        rw [hin, if_neg (by simp)] at HO3
                        clear hin
                        go_wp2_with fail
                        go_roundw
                        case rel => exact ⟨q + 1, 0, by omega, by go_num, rfl, HO3, hb5⟩
                        case measure => simp [intOf]; omega
                    · obtain rfl : q = k := by omega
                      have h0 : fileE (l.take q) f = 0 := by rw [HO2.out, List.drop_of_length_le (by rw [List.length_take]; omega)]; rfl
                      have HF2 : Hid (filesE [] 0 l = filesE (l.take (q + 1)) (q + 1) (l.drop (q + 1))) := by
                        show _ = _
                        rw [HF.out, HST.out, if_pos h0]
                      have HAL : Hid (allText (l.take (q + 1)) = allText (l.take q) + f.text.size) := by show _ = _; rw [HTK.out, allText_snoc]
                      have hqq : decide (q < q) = false := decide_eq_false (by omega)
                      have hts : f.text.size ≤ 100000 := sz.2
                      clear h0 HO2 HF HST HTK
                      go_wp2_with fail
                      go_roundw
                      case rel => exact ⟨q + 1, by omega, by go_num, by rw [HAL.out]; go_num, by rw [HAL.out]; omega, HF2, hbq⟩
                      case measure => simp [intOf]; omega
                  · have hec1 : 0 < ec := Nat.pos_of_ne_zero hec
                    have HO2 : Hid (fileE (l.take k) f = ec) := by
                      rcases HO.out with h | h
                      · exact absurd h.1 hec
                      · exact h.2
                    obtain ⟨ec', rfl⟩ : ∃ ec', ec = ec' + 1 := ⟨ec - 1, by omega⟩
                    have HY := Lib.hid (HAT.out ec' HO2.out)
                    have he0 : (((ec' : Int) + 1) == 0) = false := by simpa using (by omega : (ec' : Int) + 1 ≠ 0)
                    have hg0 : wr.heap[g]? = some (.cells #[.int .i64 0, .int .i64 0] 59 (0, 0)) := (hbq.block g hgB).trans HGB.out
                    have f0 : wr.frozen? ⟨g, 0, none⟩ = false := Lib.frozen_of_heap hg0 0
                    have f1 : wr.frozen? ⟨g, 1, none⟩ = false := Lib.frozen_of_heap hg0 1
                    have e0 : wr.cell? ⟨g, 0, none⟩ = some (.int .i64 0) := by rw [Lib.cell_of_heap hg0]; rfl
                    have e1 : wr.cell? ⟨g, 1, none⟩ = some (.int .i64 0) := by rw [Lib.cell_of_heap hg0]; rfl
                    obtain ⟨s0, s1, s2⟩ := fault_store hg0 (.int .i64 ((ec' : Int) + 1)) (.int .i64 k) hgw
                    have S0 := Lib.hid s0
                    have S1 := Lib.hid s1
                    have S2 := Lib.hid s2
                    clear hg0 s0 s1 s2 HO HO2 hec
                    go_wp2_with fail
                    all_goals exact bodyPost_ret (v := .agg #[.int .i64 ((ec' : Int) + 1), .int .i64 k]) (by simp [results, Tryz.results119, go_sem, S0.out, S1.out]) rfl ⟨by rw [HY.out]; rfl, hbwq.trans S2.out⟩
              | false =>
                have HEN : Hid (FSt (l.take k) f 0 0) := .inl ⟨rfl, by unfold fileE; rw [if_neg (by rw [HC.out]; simp), if_neg ht, if_neg (by rw [HL.out]; simp)]; rfl⟩
                go_wp2_with fail
                go_loopw [5, 6, 7] (fun ev ki _ wq => ∃ (q : Nat) (ec : Nat), q ≤ k ∧ ki = .int .i64 q ∧ ev = .int .i64 ec ∧ Hid (FSt (l.take k) f ec q) ∧ Below B wg wq) (fun _ i _ _ => k + 1 - (intOf i).toNat)
                case atStart => exact ⟨0, 0, Nat.zero_le _, rfl, rfl, HEN, hb2⟩
                case round =>
                  obtain ⟨q, ec, hq, rfl, rfl, HO, hbq⟩ := hrel
                  have hbwq : Below w.heap.size w wr := HBW.out.trans (hbq.mono hwB)
                  have cl1 := (hbwq.cell (p := ⟨b, off + k * 3, none⟩) hbl).trans d0
                  have cl2 := (hbwq.cell (p := ⟨b, off + k * 3 + 2, none⟩) hbl).trans d2
                  by_cases hec : ec = 0
                  · subst hec
                    have HO2 : Hid (fileE (l.take k) f = if ((l.take k).drop q).any (fun g => inB (bl f.path) (bl g.path)) = true then 11 else 0) := by
                      rcases HO.out with h | h
                      · exact h.2
                      · exact absurd rfl h.1
                    clear HO
                    by_cases hqt : q < k
                    · obtain ⟨x0, _, _⟩ := HCE.out q (by omega)
                      have cl4 := (hbwq.cell (p := ⟨b, off + q * 3, none⟩) hbl).trans x0
                      have sg := (HSM.out (l[q]'(by omega)) (List.getElem_mem _)).1
                      have HD : Hid ((l.take k).drop q = (l[q]'(by omega)) :: (l.take k).drop (q + 1)) := by
                        show _ = _
                        rw [List.drop_eq_getElem_cons (by rw [List.length_take]; omega), List.getElem_take]
                      clear x0
                      generalize (l[q]'(by omega)) = gg at cl4 sg HD
                      have C := Lib.hid (refIsIn_any f.path gg.path wr.drew (by have := sz.1; omega) (by omega))
                      have hqk1 : decide (q < k) = true := decide_eq_true hqt
                      have hql : (q : Int) < (l.length : Int) := by omega
                      have hkl2 : (k : Int) < (l.length : Int) := by omega
                      go_wp2_with fail
                      go_region_held3 (fun W : World => W.cell? ⟨b, off + k * 3, none⟩ = some (.string f.path) ∧ W.cell? ⟨b, off + q * 3, none⟩ = some (.string gg.path)) (first | exact ⟨y1, y4⟩ | exact ⟨cl1, cl4⟩)
                        (first
                          | (go_at_call 165; refine C.out.mono ?_; rintro e w4 ⟨rfl, hb4⟩; have y1 := (hb4.cell (p := ⟨b, off + k * 3, none⟩) (World.block_lt_of_cell? _ _ cl1)).trans cl1; have y4 := (hb4.cell (p := ⟨b, off + q * 3, none⟩) (World.block_lt_of_cell? _ _ cl4)).trans cl4))
                      have hb5 : Below B wg w4 := (hbq.trans (below_drewN _ _ 1)).trans (hb4.mono (Nat.le_trans hBw hbq.size))
                      have HO3 : Hid (FSt (l.take k) f (if inB (bl f.path) (bl gg.path) = true then 11 else 0) (q + 1)) := by
                        show FSt _ _ _ _
                        unfold FSt
                        rw [HO2.out, HD.out, List.any_cons]
                        by_cases h : inB (bl f.path) (bl gg.path) = true
                        · rw [h]; exact .inr ⟨by simp, by simp⟩
                        · rw [Bool.not_eq_true] at h
                          rw [h]; exact .inl ⟨rfl, by simp⟩
                      clear C hqk1 hql hkl2 HO2 HD cl1 cl2 cl4 y1 y4 hb4
                      cases hin : inB (bl f.path) (bl gg.path) with
                      | true =>
                        rw [hin, if_pos rfl] at HO3
                        clear hin
                        go_wp2_with fail
                        go_roundw
                        case rel => exact ⟨q + 1, 11, by omega, by go_num, rfl, HO3, hb5⟩
                        case measure => simp [intOf]; omega
                      | false =>
                        rw [hin, if_neg (by simp)] at HO3
                        clear hin
                        go_wp2_with fail
                        go_roundw
                        case rel => exact ⟨q + 1, 0, by omega, by go_num, rfl, HO3, hb5⟩
                        case measure => simp [intOf]; omega
                    · obtain rfl : q = k := by omega
                      have h0 : fileE (l.take q) f = 0 := by rw [HO2.out, List.drop_of_length_le (by rw [List.length_take]; omega)]; rfl
                      have HF2 : Hid (filesE [] 0 l = filesE (l.take (q + 1)) (q + 1) (l.drop (q + 1))) := by
                        show _ = _
                        rw [HF.out, HST.out, if_pos h0]
                      have HAL : Hid (allText (l.take (q + 1)) = allText (l.take q) + f.text.size) := by show _ = _; rw [HTK.out, allText_snoc]
                      have hqq : decide (q < q) = false := decide_eq_false (by omega)
                      have hts : f.text.size ≤ 100000 := sz.2
                      clear h0 HO2 HF HST HTK
                      go_wp2_with fail
                      go_roundw
                      case rel => exact ⟨q + 1, by omega, by go_num, by rw [HAL.out]; go_num, by rw [HAL.out]; omega, HF2, hbq⟩
                      case measure => simp [intOf]; omega
                  · have hec1 : 0 < ec := Nat.pos_of_ne_zero hec
                    have HO2 : Hid (fileE (l.take k) f = ec) := by
                      rcases HO.out with h | h
                      · exact absurd h.1 hec
                      · exact h.2
                    obtain ⟨ec', rfl⟩ : ∃ ec', ec = ec' + 1 := ⟨ec - 1, by omega⟩
                    have HY := Lib.hid (HAT.out ec' HO2.out)
                    have he0 : (((ec' : Int) + 1) == 0) = false := by simpa using (by omega : (ec' : Int) + 1 ≠ 0)
                    have hg0 : wr.heap[g]? = some (.cells #[.int .i64 0, .int .i64 0] 59 (0, 0)) := (hbq.block g hgB).trans HGB.out
                    have f0 : wr.frozen? ⟨g, 0, none⟩ = false := Lib.frozen_of_heap hg0 0
                    have f1 : wr.frozen? ⟨g, 1, none⟩ = false := Lib.frozen_of_heap hg0 1
                    have e0 : wr.cell? ⟨g, 0, none⟩ = some (.int .i64 0) := by rw [Lib.cell_of_heap hg0]; rfl
                    have e1 : wr.cell? ⟨g, 1, none⟩ = some (.int .i64 0) := by rw [Lib.cell_of_heap hg0]; rfl
                    obtain ⟨s0, s1, s2⟩ := fault_store hg0 (.int .i64 ((ec' : Int) + 1)) (.int .i64 k) hgw
                    have S0 := Lib.hid s0
                    have S1 := Lib.hid s1
                    have S2 := Lib.hid s2
                    clear hg0 s0 s1 s2 HO HO2 hec
                    go_wp2_with fail
                    all_goals exact bodyPost_ret (v := .agg #[.int .i64 ((ec' : Int) + 1), .int .i64 k]) (by simp [results, Tryz.results119, go_sem, S0.out, S1.out]) rfl ⟨by rw [HY.out]; rfl, hbwq.trans S2.out⟩
      · obtain rfl : k = l.length := by omega
        have HT := Lib.hid (treeEr_end h30 HF.out)
        rw [List.take_length] at hall ⊢
        clear HF hbw
        by_cases hall2 : 12000 < allText l
        · have HX : Hid (treeEr l = ⟨2, none⟩) := by show _ = _; rw [HT.out, if_pos hall2]
          have C := Lib.hid (refBare_any 2 wr)
          clear HT
          go_wp2_with fail
          refine C.out.mono ?_
          clear C
          rintro e w1 ⟨rfl, hbx⟩
          have hb1 := hb.trans (hbx.mono (Nat.le_trans hBw hb.size))
          have hg0 : w1.heap[g]? = some (.cells #[.int .i64 0, .int .i64 0] 59 (0, 0)) := (hb1.block g hgB).trans HGB.out
          have f0 : w1.frozen? ⟨g, 0, none⟩ = false := Lib.frozen_of_heap hg0 0
          have f1 : w1.frozen? ⟨g, 1, none⟩ = false := Lib.frozen_of_heap hg0 1
          have e0 : w1.cell? ⟨g, 0, none⟩ = some (.int .i64 0) := by rw [Lib.cell_of_heap hg0]; rfl
          have e1 : w1.cell? ⟨g, 1, none⟩ = some (.int .i64 0) := by rw [Lib.cell_of_heap hg0]; rfl
          obtain ⟨s0, s1, s2⟩ := fault_store hg0 (.int .i64 2) (.int .i64 (-1)) hgw
          have S0 := Lib.hid s0
          have S1 := Lib.hid s1
          have S2 := Lib.hid s2
          have hbw2 : Below w.heap.size w w1 := HBW.out.trans (hb1.mono hwB)
          clear hg0 s0 s1 s2
          go_wp2_with fail
          exact bodyPost_ret (v := .agg #[.int .i64 2, .int .i64 (-1)]) (by simp [results, Tryz.results119, go_sem, S0.out, S1.out]) rfl ⟨by rw [HX.out]; rfl, hbw2.trans S2.out⟩
        · have HX : Hid (treeEr l = ⟨0, none⟩) := by show _ = _; rw [HT.out, if_neg hall2]
          have C := Lib.hid (refFine_any wr)
          clear HT
          go_wp2_with fail
          refine C.out.mono ?_
          clear C
          rintro e w1 ⟨rfl, hbx⟩
          have hb1 := hb.trans (hbx.mono (Nat.le_trans hBw hb.size))
          have hg0 : w1.heap[g]? = some (.cells #[.int .i64 0, .int .i64 0] 59 (0, 0)) := (hb1.block g hgB).trans HGB.out
          have f0 : w1.frozen? ⟨g, 0, none⟩ = false := Lib.frozen_of_heap hg0 0
          have f1 : w1.frozen? ⟨g, 1, none⟩ = false := Lib.frozen_of_heap hg0 1
          have e0 : w1.cell? ⟨g, 0, none⟩ = some (.int .i64 0) := by rw [Lib.cell_of_heap hg0]; rfl
          have e1 : w1.cell? ⟨g, 1, none⟩ = some (.int .i64 0) := by rw [Lib.cell_of_heap hg0]; rfl
          obtain ⟨s0, s1, s2⟩ := fault_store hg0 (.int .i64 0) (.int .i64 (-1)) hgw
          have S0 := Lib.hid s0
          have S1 := Lib.hid s1
          have S2 := Lib.hid s2
          have hbw2 : Below w.heap.size w w1 := HBW.out.trans (hb1.mono hwB)
          clear hg0 s0 s1 s2
          go_wp2_with fail
          exact bodyPost_ret (v := .agg #[.int .i64 0, .int .i64 (-1)]) (by simp [results, Tryz.results119, go_sem, S0.out, S1.out]) rfl ⟨by rw [HX.out]; rfl, hbw2.trans S2.out⟩
  · have HX : Hid (treeEr l = ⟨8, none⟩) := by show _ = _; unfold treeEr; rw [if_pos (by omega)]
    have C := Lib.hid (refBare_any 8 wg)
    have hm30 : decide ((30 : Int) < (l.length : Int)) = true := decide_eq_true (by omega)
    go_wp2_with fail
    rw [HWA.out, HPA.out]
    refine C.out.mono ?_
    clear C
    rintro e w1 ⟨rfl, hbx⟩
    have hb1 : Below B wg w1 := hbx.mono hBw
    have hg0 : w1.heap[g]? = some (.cells #[.int .i64 0, .int .i64 0] 59 (0, 0)) := (hb1.block g hgB).trans HGB.out
    have f0 : w1.frozen? ⟨g, 0, none⟩ = false := Lib.frozen_of_heap hg0 0
    have f1 : w1.frozen? ⟨g, 1, none⟩ = false := Lib.frozen_of_heap hg0 1
    have e0 : w1.cell? ⟨g, 0, none⟩ = some (.int .i64 0) := by rw [Lib.cell_of_heap hg0]; rfl
    have e1 : w1.cell? ⟨g, 1, none⟩ = some (.int .i64 0) := by rw [Lib.cell_of_heap hg0]; rfl
    obtain ⟨s0, s1, s2⟩ := fault_store hg0 (.int .i64 8) (.int .i64 (-1)) hgw
    have S0 := Lib.hid s0
    have S1 := Lib.hid s1
    have S2 := Lib.hid s2
    have hbw2 : Below w.heap.size w w1 := HBW.out.trans (hb1.mono hwB)
    clear hg0 s0 s1 s2
    go_wp2_with fail
    exact bodyPost_ret (v := .agg #[.int .i64 8, .int .i64 (-1)]) (by simp [results, Tryz.results119, go_sem, S0.out, S1.out]) rfl ⟨by rw [HX.out]; rfl, hbw2.trans S2.out⟩
end Go.Proofs.YtgchgdkpipanjaaGreatDoor

namespace Go.Proofs.YtgchgdkpipanjaaGreatDoor
open Go Go.RowKit

def PTextPost (l : List FileB) (w : World) (e : Ending) (w' : World) : Prop := (∃ t : ByteArray, e = .returned (.string t) ∧ Hid (bl t = packL l)) ∧ Below w.heap.size w w'
theorem reftext_bl (s : ByteArray) (f : FileB) (t m : ByteArray) (r : Bool) (hr : f.run = r) (hm : bl m = [32, modeB r, 32]) (ht : bl t = Lib.decDigits f.text.size) :
    bl (s ++ f.path ++ m ++ t ++ { data := #[10] } ++ f.text ++ { data := #[10] }) = bl s ++ packOne f := by
  simp only [bl_append, hm, ht, packOne, hr]
  rw [show bl { data := #[10] } = [10] from rfl]
  simp

theorem size_of_bl {x : ByteArray} {L : List UInt8} {n : Nat} (h : bl x = L) (hl : L.length ≤ n) : x.size ≤ n := by rw [← bl_length, h]; exact hl

set_option maxHeartbeats 4000000 in
set_option maxRecDepth 100000 in
theorem refPackText_any (v : Value) (l : List FileB) (w : World) (hv : FRow w v l) (hl : l.length ≤ 10000) (hS : ∀ f ∈ l, SmallF f) :
    Calls Tryz.prog 79 #[v] w (PTextPost l w) := by
  obtain ⟨ao, cap, rfl, h1, h2, H3⟩ := hv
  have HM := Lib.hid H3
  have HSM := Lib.hid hS
  clear H3 hS
  go_enter Tryz.func79, Tryz.ntmps79
  go_wp2_with fail
  go_loopw [3, 4] (fun sv i wr => ∃ (k : Nat) (s : ByteArray), k ≤ l.length ∧ i = .int .i64 k ∧ sv = .string s ∧ Hid (bl s = packL (l.take k)) ∧ s.size ≤ 132000 * k ∧ Below w.heap.size w wr) (fun _ i _ => l.length - (intOf i).toNat)
  case atStart => exact ⟨0, ⟨#[]⟩, Nat.zero_le _, rfl, rfl, rfl, Nat.zero_le _, Below.refl _ _⟩
  case round =>
    obtain ⟨k, s, hk, rfl, rfl, HAC, hlen, hb⟩ := hrel
    by_cases hlt : k < l.length
    · obtain ⟨b, off, rfl, hbl, hcell⟩ := HM.out k hlt
      obtain ⟨q0, q1, q2⟩ := hcell k hlt
      rw [← hb.cell (p := ⟨b, off + k * 3, none⟩) hbl] at q0
      rw [← hb.cell (p := ⟨b, off + k * 3 + 1, none⟩) hbl] at q1
      rw [← hb.cell (p := ⟨b, off + k * 3 + 2, none⟩) hbl] at q2
      have sz := HSM.out l[k] (List.getElem_mem hlt)
      have HTK : Hid (bl s ++ packOne l[k] = packL (l.take (k + 1))) := by show _ = _; rw [packL_take hlt, HAC.out]
      have hpl : (packOne l[k]).length ≤ 132000 := packOne_len _ sz.1 sz.2
      clear hcell HAC
      obtain ⟨f, hf⟩ : ∃ f, l[k] = f := ⟨_, rfl⟩
      rw [hf] at q0 q1 q2 sz HTK hpl
      clear hf
      obtain ⟨r, hr⟩ : ∃ r, f.run = r := ⟨_, rfl⟩
      rw [hr] at q1
      have HR := Lib.hid hr
      clear hr
      have sz1 := sz.1
      have sz2 := sz.2
      have hkk : k ≤ 10000 := by omega
      have hss : s.size ≤ 1320000000 := by omega
      have hblr := Nat.lt_of_lt_of_le hbl hb.size
      clear sz
      cases r
      all_goals
        go_wp2_with fail
        have b0 : wr.drew.cell? ⟨b, off + k * 3, none⟩ = some (.string f.path) := q0
        have b2 : wr.drew.cell? ⟨b, off + k * 3 + 2, none⟩ = some (.string f.text) := q2
        have n1 : ¬ 9223372036854775807 < s.size + f.path.size := by omega
        have n2 : ¬ 9223372036854775807 < s.size + f.path.size + 3 := by omega
        go_region_held3 (fun W : World => W.cell? ⟨b, off + k * 3, none⟩ = some (.string f.path) ∧ W.cell? ⟨b, off + k * 3 + 2, none⟩ = some (.string f.text)) (first | exact ⟨y0, y2⟩ | exact ⟨b0, b2⟩)
          (first
            | (go_at_call 114; refine (decimal_any f.text.size (by omega) _).mono ?_; rintro e w2 ⟨t, rfl, HTX, hts, hb2⟩; have n4 : ¬ 9223372036854775807 < s.size + f.path.size + 3 + t.size := by omega
               have n5 : ¬ 9223372036854775807 < s.size + f.path.size + 3 + t.size + 1 := by omega
               have n6 : ¬ 9223372036854775807 < s.size + f.path.size + 3 + t.size + 1 + f.text.size := by omega
               have n7 : ¬ 9223372036854775807 < s.size + f.path.size + 3 + t.size + 1 + f.text.size + 1 := by omega
               have y0 := (hb2.cell (p := ⟨b, off + k * 3, none⟩) hblr).trans b0; have y2 := (hb2.cell (p := ⟨b, off + k * 3 + 2, none⟩) hblr).trans b2))
        clear n1 n2 n4 n5 n6 n7 y0 y2 b0 b2 q0 q1 q2
        try clear hHeld
        have hbf : Below w.heap.size w w2 := (hb.trans (below_drewN _ _ 1)).trans (hb2.mono hb.size)
        have HX := Lib.hid (fun m hm => reftext_bl s f t m _ HR.out hm HTX.out)
        have HBF := Lib.hid hbf
        clear hbf hb2 HTX
        go_wp2_with fail
        go_roundw
        case rel =>
          refine ⟨k + 1, _, by omega, by go_num, rfl, ?_, ?_, HBF.out⟩
          · show _ = _; rw [← HTK.out]; exact HX.out _ rfl
          · exact size_of_bl (HX.out _ rfl) (by rw [List.length_append, bl_length]; omega)
        case measure => simp [intOf]; omega
    · obtain rfl : k = l.length := by omega
      have HE2 : Hid (bl s = packL l) := by show _ = _; rw [HAC.out, List.take_length]
      clear HAC
      go_wp2_with fail
      go_ret
      exact ⟨⟨s, rfl, HE2⟩, hb⟩
end Go.Proofs.YtgchgdkpipanjaaGreatDoor

namespace Go.Proofs.YtgchgdkpipanjaaGreatDoor
open Go Go.RowKit

def POfPost (l : List FileB) (w : World) (e : Ending) (w' : World) : Prop := (∃ t : ByteArray, e = .returned (.tuple #[.string t, .agg (erA (treeEr l))]) ∧ Hid (bl t = packT l)) ∧ Below w.heap.size w w'

theorem packOf_end {w2 w3 : World} {q g gw : Nat} {c a : Int} (hb : Below w2.heap.size w2.drew w3) (hq : w2.heap[q]? = some (.cells #[.int .i64 c, .int .i64 a] 59 (0, 0))) (hg : w2.heap[g]? = some (.cells #[.int .i64 0, .int .i64 0] 59 (0, 0))) (hgw : gw ≤ g) :
    w3.cell? ⟨q, 0, none⟩ = some (.int .i64 c) ∧ w3.cell? ⟨q, 1, none⟩ = some (.int .i64 a) ∧ w3.frozen? ⟨g, 0, none⟩ = false ∧ w3.frozen? ⟨g, 1, none⟩ = false ∧ w3.cell? ⟨g, 0, none⟩ = some (.int .i64 0) ∧ w3.cell? ⟨g, 1, none⟩ = some (.int .i64 0) ∧
      Hid (((w3.setCell ⟨g, 0, none⟩ (.int .i64 c)).setCell ⟨g, 1, none⟩ (.int .i64 a)).cell? ⟨g, 0, none⟩ = some (.int .i64 c) ∧ ((w3.setCell ⟨g, 0, none⟩ (.int .i64 c)).setCell ⟨g, 1, none⟩ (.int .i64 a)).cell? ⟨g, 1, none⟩ = some (.int .i64 a) ∧ Below gw w3 ((w3.setCell ⟨g, 0, none⟩ (.int .i64 c)).setCell ⟨g, 1, none⟩ (.int .i64 a))) := by
  have hq3 : w3.heap[q]? = some (.cells #[.int .i64 c, .int .i64 a] 59 (0, 0)) := (hb.block q (Array.getElem?_eq_some_iff.1 hq).1).trans hq
  have hg3 : w3.heap[g]? = some (.cells #[.int .i64 0, .int .i64 0] 59 (0, 0)) := (hb.block g (Array.getElem?_eq_some_iff.1 hg).1).trans hg
  exact ⟨by rw [Lib.cell_of_heap hq3]; rfl, by rw [Lib.cell_of_heap hq3]; rfl, Lib.frozen_of_heap hg3 0, Lib.frozen_of_heap hg3 1, by rw [Lib.cell_of_heap hg3]; rfl, by rw [Lib.cell_of_heap hg3]; rfl, fault_store hg3 (.int .i64 c) (.int .i64 a) hgw⟩

set_option maxHeartbeats 2000000 in
set_option maxRecDepth 100000 in
theorem refPackOf_any (v : Value) (l : List FileB) (w : World) (hv : FRow w v l) (hl : l.length ≤ 10000) (hS : ∀ f ∈ l, SmallF f) :
    Calls Tryz.prog 163 #[v] w (POfPost l w) := by
  obtain ⟨g, hg⟩ : ∃ g, w.heap.size = g := ⟨_, rfl⟩
  obtain ⟨wg, hwg⟩ : ∃ wg, w.alloc (.cells #[.int .i64 0, .int .i64 0] 59) = wg := ⟨_, rfl⟩
  have hal : Below w.heap.size w wg := by rw [← hwg]; exact (Below.refl _ _).alloc (Nat.le_refl _) _
  have hA : wg.heap[g]? = some (.cells #[.int .i64 0, .int .i64 0] 59 (0, 0)) := by rw [← hwg, ← hg]; exact heap_alloc_new _ _
  have HGB := Lib.hid hA
  have hgl : g < wg.heap.size := (Array.getElem?_eq_some_iff.1 hA).1
  have hgw : w.heap.size ≤ g := Nat.le_of_eq hg
  have HBW := Lib.hid hal
  have HWA := Lib.hid hwg
  have HPA := Lib.hid hg
  have HV := Lib.hid hv
  have HS := Lib.hid hS
  have C := Lib.hid (refTreeFault_any v l wg (hv.ext hal) hl hS)
  obtain ⟨ao, cap, rfl, h1, h2, H3⟩ := hv
  clear H3 hal hA hwg hg hS
  go_enter Tryz.func163, Tryz.ntmps163
  go_wp2_with fail
  rw [HWA.out, HPA.out]
  refine C.out.mono ?_
  clear C
  rintro e w1 ⟨rfl, hb1⟩
  have hbw1 : Below w.heap.size w w1 := HBW.out.trans (hb1.mono HBW.out.size)
  have hg1 : w1.heap[g]? = some (.cells #[.int .i64 0, .int .i64 0] 59 (0, 0)) := (hb1.block g hgl).trans HGB.out
  obtain ⟨er, her⟩ : ∃ er, treeEr l = er := ⟨_, rfl⟩
  have HER := Lib.hid her
  rw [her]
  unfold erA
  obtain ⟨c, hc⟩ : ∃ c : Int, (er.code : Int) = c := ⟨_, rfl⟩
  have hc0 : 0 ≤ c := by omega
  obtain ⟨a, ha⟩ : ∃ a : Int, er.at?.getD (-1) = a := ⟨_, rfl⟩
  rw [hc, ha]
  have HEA : Hid (erA (treeEr l) = #[.int .i64 c, .int .i64 a]) := by show _ = _; rw [her]; unfold erA; rw [hc, ha]
  have HTC : Hid (((treeEr l).code : Int) = c) := by show _ = _; rw [her, hc]
  clear her hc ha
  obtain ⟨q, hq⟩ : ∃ q, w1.heap.size = q := ⟨_, rfl⟩
  obtain ⟨w2, hw2⟩ : ∃ w2, w1.alloc (.cells #[.int .i64 c, .int .i64 a] 59) = w2 := ⟨_, rfl⟩
  have hal2 : Below w1.heap.size w1 w2 := by rw [← hw2]; exact (Below.refl _ _).alloc (Nat.le_refl _) _
  have hA2 : w2.heap[q]? = some (.cells #[.int .i64 c, .int .i64 a] 59 (0, 0)) := by rw [← hw2, ← hq]; exact heap_alloc_new _ _
  have hg2 : w2.heap[g]? = some (.cells #[.int .i64 0, .int .i64 0] 59 (0, 0)) := (hal2.block g (Array.getElem?_eq_some_iff.1 hg1).1).trans hg1
  have hbw2 : Below w.heap.size w w2 := hbw1.trans (hal2.mono hbw1.size)
  have HW2 := Lib.hid hw2
  have HQ := Lib.hid hq
  clear hw2 hq hal2 hg1 hb1 hbw1
  rcases Int.lt_or_eq_of_le hc0 with hpos | rfl
  case inr =>
    have HPT : Hid (packT l = packL l) := by show _ = _; unfold packT; rw [if_pos (by have := HTC.out; omega)]
    have C := Lib.hid (refPackText_any _ l w2.drew ((HV.out.ext hbw2).ext (below_drewN _ _ 1)) hl HS.out)
    have c0 : w2.cell? ⟨q, 0, none⟩ = some (.int .i64 0) := by rw [Lib.cell_of_heap hA2]; rfl
    have c1 : w2.cell? ⟨q, 1, none⟩ = some (.int .i64 a) := by rw [Lib.cell_of_heap hA2]; rfl
    have HA2 := Lib.hid hA2
    have HG2 := Lib.hid hg2
    clear hA2 hg2
    go_wp2_with fail
    rw [HW2.out, HQ.out]
    have z0 : w2.drew.cell? ⟨q, 0, none⟩ = some (.int .i64 0) := c0
    have z1 : w2.drew.cell? ⟨q, 1, none⟩ = some (.int .i64 a) := c1
    go_region_with (go_at_call 79; refine C.out.mono ?_; clear C; rintro e w3 ⟨⟨t, rfl, HT⟩, hb3⟩; obtain ⟨d0, d1, f0, f1, e0, e1, HHH⟩ := packOf_end (hb3.mono (Nat.le_refl w2.heap.size)) HA2.out HG2.out hgw)
    all_goals
      have hbw3 : Below w.heap.size w w3 := hbw2.trans ((below_drewN _ _ 1).trans (hb3.mono hbw2.size))
      have S0 := Lib.hid HHH.out.1
      have S1 := Lib.hid HHH.out.2.1
      have S2 := Lib.hid HHH.out.2.2
      clear HHH
      go_wp2_with fail
      exact bodyPost_ret (v := .tuple #[.string t, .agg #[.int .i64 0, .int .i64 a]]) (by simp [results, Tryz.results163, go_sem, S0.out, S1.out]) rfl ⟨⟨t, by rw [HEA.out], by show _ = _; rw [HPT.out]; exact HT.out⟩, hbw3.trans S2.out⟩
  case inl =>
    have HPT : Hid (packT l = []) := by show _ = _; unfold packT; rw [if_neg (by have := HTC.out; omega)]
    have d0 : w2.cell? ⟨q, 0, none⟩ = some (.int .i64 c) := by rw [Lib.cell_of_heap hA2]; rfl
    have d1 : w2.cell? ⟨q, 1, none⟩ = some (.int .i64 a) := by rw [Lib.cell_of_heap hA2]; rfl
    have f0 : w2.frozen? ⟨g, 0, none⟩ = false := Lib.frozen_of_heap hg2 0
    have f1 : w2.frozen? ⟨g, 1, none⟩ = false := Lib.frozen_of_heap hg2 1
    have e0 : w2.cell? ⟨g, 0, none⟩ = some (.int .i64 0) := by rw [Lib.cell_of_heap hg2]; rfl
    have e1 : w2.cell? ⟨g, 1, none⟩ = some (.int .i64 0) := by rw [Lib.cell_of_heap hg2]; rfl
    obtain ⟨s0, s1, s2⟩ := fault_store hg2 (.int .i64 c) (.int .i64 a) hgw
    have S0 := Lib.hid s0
    have S1 := Lib.hid s1
    have S2 := Lib.hid s2
    clear hg2 hA2 s0 s1 s2
    go_wp2_with fail
    rw [HW2.out, HQ.out]
    go_region
    all_goals
      go_wp2_with fail
      exact bodyPost_ret (v := .tuple #[.string ⟨#[]⟩, .agg #[.int .i64 c, .int .i64 a]]) (by simp [results, Tryz.results163, go_sem, S0.out, S1.out]) rfl ⟨⟨_, by rw [HEA.out], by show _ = _; rw [HPT.out]; rfl⟩, (hbw2.trans S2.out).drew⟩
end Go.Proofs.YtgchgdkpipanjaaGreatDoor

namespace Go.Proofs.YtgchgdkpipanjaaGreatDoor
open Go Go.RowKit

def RSumPost (l : List FileB) (w : World) (e : Ending) (w' : World) : Prop := e = .returned (.tuple #[.int .i64 (sumL (packT l) : Nat), .agg (erA (treeEr l))]) ∧ Below w.heap.size w w'

theorem refSumOf_below (s : ByteArray) (w : World) (hs : s.size ≤ 9223372036854775807) :
    Calls Tryz.prog 164 #[.string s] w fun e w' => e = .returned (.int .i64 (sumL (bl s) : Nat)) ∧ Below w.heap.size w w' := by
  refine (refSumOf_any s w hs).mono ?_
  rintro e w' ⟨rfl, rfl⟩
  exact ⟨rfl, Below.refl _ _⟩

set_option maxHeartbeats 2000000 in
set_option maxRecDepth 100000 in
theorem refTreeSum_any (v : Value) (l : List FileB) (w : World) (hv : FRow w v l) (hl : l.length ≤ 10000) (hS : ∀ f ∈ l, SmallF f) :
    Calls Tryz.prog 118 #[v] w (RSumPost l w) := by
  obtain ⟨g, hg⟩ : ∃ g, w.heap.size = g := ⟨_, rfl⟩
  obtain ⟨wg, hwg⟩ : ∃ wg, w.alloc (.cells #[.int .i64 0, .int .i64 0] 59) = wg := ⟨_, rfl⟩
  have hal : Below w.heap.size w wg := by rw [← hwg]; exact (Below.refl _ _).alloc (Nat.le_refl _) _
  have hA : wg.heap[g]? = some (.cells #[.int .i64 0, .int .i64 0] 59 (0, 0)) := by rw [← hwg, ← hg]; exact heap_alloc_new _ _
  have HGB := Lib.hid hA
  have hgl : g < wg.heap.size := (Array.getElem?_eq_some_iff.1 hA).1
  have hgw : w.heap.size ≤ g := Nat.le_of_eq hg
  have HBW := Lib.hid hal
  have HWA := Lib.hid hwg
  have HPA := Lib.hid hg
  have HV := Lib.hid hv
  have HS := Lib.hid hS
  have C := Lib.hid (refPackOf_any v l wg (hv.ext hal) hl hS)
  have HLN := Lib.hid (packT_len l hS)
  obtain ⟨ao, cap, rfl, h1, h2, H3⟩ := hv
  clear H3 hal hA hwg hg hS
  go_enter Tryz.func118, Tryz.ntmps118
  go_wp2_with fail
  rw [HWA.out, HPA.out]
  refine C.out.mono ?_
  clear C
  rintro e w1 ⟨⟨t, rfl, HT⟩, hb1⟩
  have hts : t.size ≤ 1320000000 := by rw [← bl_length, HT.out]; have := HLN.out; omega
  have hbw1 : Below w.heap.size w w1 := HBW.out.trans (hb1.mono HBW.out.size)
  have hg1 : w1.heap[g]? = some (.cells #[.int .i64 0, .int .i64 0] 59 (0, 0)) := (hb1.block g hgl).trans HGB.out
  obtain ⟨er, her⟩ : ∃ er, treeEr l = er := ⟨_, rfl⟩
  have HER := Lib.hid her
  rw [her]
  unfold erA
  obtain ⟨c, hc⟩ : ∃ c : Int, (er.code : Int) = c := ⟨_, rfl⟩
  have hc0 : 0 ≤ c := by omega
  obtain ⟨a, ha⟩ : ∃ a : Int, er.at?.getD (-1) = a := ⟨_, rfl⟩
  rw [hc, ha]
  have HEA : Hid (erA (treeEr l) = #[.int .i64 c, .int .i64 a]) := by show _ = _; rw [her]; unfold erA; rw [hc, ha]
  have HTC : Hid (((treeEr l).code : Int) = c) := by show _ = _; rw [her, hc]
  clear her hc ha
  obtain ⟨q, hq⟩ : ∃ q, w1.heap.size = q := ⟨_, rfl⟩
  obtain ⟨w2, hw2⟩ : ∃ w2, w1.alloc (.cells #[.int .i64 c, .int .i64 a] 59) = w2 := ⟨_, rfl⟩
  have hal2 : Below w1.heap.size w1 w2 := by rw [← hw2]; exact (Below.refl _ _).alloc (Nat.le_refl _) _
  have hA2 : w2.heap[q]? = some (.cells #[.int .i64 c, .int .i64 a] 59 (0, 0)) := by rw [← hw2, ← hq]; exact heap_alloc_new _ _
  have hg2 : w2.heap[g]? = some (.cells #[.int .i64 0, .int .i64 0] 59 (0, 0)) := (hal2.block g (Array.getElem?_eq_some_iff.1 hg1).1).trans hg1
  have hbw2 : Below w.heap.size w w2 := hbw1.trans (hal2.mono hbw1.size)
  have HW2 := Lib.hid hw2
  have HQ := Lib.hid hq
  clear hw2 hq hal2 hg1 hb1 hbw1
  rcases Int.lt_or_eq_of_le hc0 with hpos | rfl
  case inr =>
    have C := Lib.hid (refSumOf_below t w2.drew (by omega))
    have c0 : w2.cell? ⟨q, 0, none⟩ = some (.int .i64 0) := by rw [Lib.cell_of_heap hA2]; rfl
    have c1 : w2.cell? ⟨q, 1, none⟩ = some (.int .i64 a) := by rw [Lib.cell_of_heap hA2]; rfl
    have HA2 := Lib.hid hA2
    have HG2 := Lib.hid hg2
    clear hA2 hg2
    go_wp2_with fail
    rw [HW2.out, HQ.out]
    have z0 : w2.drew.cell? ⟨q, 0, none⟩ = some (.int .i64 0) := c0
    have z1 : w2.drew.cell? ⟨q, 1, none⟩ = some (.int .i64 a) := c1
    go_region_with (go_at_call 164; refine C.out.mono ?_; clear C; rintro e w3 ⟨rfl, hb3⟩; obtain ⟨d0, d1, f0, f1, e0, e1, HHH⟩ := packOf_end (hb3.mono (Nat.le_refl w2.heap.size)) HA2.out HG2.out hgw)
    all_goals
      have hbw3 : Below w.heap.size w w3 := hbw2.trans ((below_drewN _ _ 1).trans (hb3.mono hbw2.size))
      have S0 := Lib.hid HHH.out.1
      have S1 := Lib.hid HHH.out.2.1
      have S2 := Lib.hid HHH.out.2.2
      clear HHH
      go_wp2_with fail
      exact bodyPost_ret (v := .tuple #[.int .i64 (sumL (bl t) : Nat), .agg #[.int .i64 0, .int .i64 a]]) (by simp [results, Tryz.results118, go_sem, S0.out, S1.out]) rfl ⟨by rw [HEA.out, HT.out], hbw3.trans S2.out⟩
  case inl =>
    have HPT : Hid (packT l = []) := by show _ = _; unfold packT; rw [if_neg (by have := HTC.out; omega)]
    have d0 : w2.cell? ⟨q, 0, none⟩ = some (.int .i64 c) := by rw [Lib.cell_of_heap hA2]; rfl
    have d1 : w2.cell? ⟨q, 1, none⟩ = some (.int .i64 a) := by rw [Lib.cell_of_heap hA2]; rfl
    have f0 : w2.frozen? ⟨g, 0, none⟩ = false := Lib.frozen_of_heap hg2 0
    have f1 : w2.frozen? ⟨g, 1, none⟩ = false := Lib.frozen_of_heap hg2 1
    have e0 : w2.cell? ⟨g, 0, none⟩ = some (.int .i64 0) := by rw [Lib.cell_of_heap hg2]; rfl
    have e1 : w2.cell? ⟨g, 1, none⟩ = some (.int .i64 0) := by rw [Lib.cell_of_heap hg2]; rfl
    obtain ⟨s0, s1, s2⟩ := fault_store hg2 (.int .i64 c) (.int .i64 a) hgw
    have S0 := Lib.hid s0
    have S1 := Lib.hid s1
    have S2 := Lib.hid s2
    clear hg2 hA2 s0 s1 s2
    go_wp2_with fail
    rw [HW2.out, HQ.out]
    go_region
    all_goals
      go_wp2_with fail
      exact bodyPost_ret (v := .tuple #[.int .i64 0, .agg #[.int .i64 c, .int .i64 a]]) (by simp [results, Tryz.results118, go_sem, S0.out, S1.out]) rfl ⟨by rw [HEA.out, HPT.out]; rfl, (hbw2.trans S2.out).drew⟩
end Go.Proofs.YtgchgdkpipanjaaGreatDoor

namespace Go.Proofs.YtgchgdkpipanjaaGreatDoor
open Go Go.RowKit

/-- No end of a line from k on to q. -/
def NoLine (s : ByteArray) (k q : Nat) : Prop := (10 : UInt8) ∉ ((bl s).drop k).take (q - k)
theorem NoLine.next {s : ByteArray} {k q : Nat} (h : NoLine s k q) (hk : k ≤ q) (hq : q < s.size) (hc : s[q] ≠ 10) : NoLine s k (q + 1) := by
  unfold NoLine at h ⊢
  have hql : q - k < ((bl s).drop k).length := by rw [List.length_drop, bl_length]; omega
  rw [show q + 1 - k = (q - k) + 1 by omega, List.take_add_one, List.getElem?_eq_getElem hql]
  intro hm
  rcases List.mem_append.1 hm with hm | hm
  · exact h hm
  · simp only [Option.toList_some, List.mem_singleton] at hm
    rw [List.getElem_drop] at hm
    have : (bl s)[k + (q - k)]'(by rw [bl_length]; omega) = s[q] := by
      have e : k + (q - k) = q := by omega
      simp only [e]
      rfl
    rw [this] at hm
    exact hc hm.symm
theorem line_miss {s : ByteArray} {k : Nat} (h : NoLine s k s.size) : pieceL ((bl s).drop k) = none := by
  have : (10 : UInt8) ∉ (bl s).drop k := by
    unfold NoLine at h
    rwa [List.take_of_length_le (by rw [List.length_drop, bl_length]; omega)] at h
  exact piece_no1 (cut_miss this)
theorem cut_line {s : ByteArray} {k q : Nat} (h : NoLine s k q) (hk : k ≤ q) (hq : q < s.size) (hc : s[q] = 10) : Lib.cut ((bl s).drop k) [10] = (bl (s.extract k q), (bl s).drop (q + 1), true) := by
  have e : (bl s).drop k = bl (s.extract k q) ++ 10 :: (bl s).drop (q + 1) := by
    rw [bl_extract]
    have h1 : (bl s).drop k = ((bl s).drop k).take (q - k) ++ ((bl s).drop k).drop (q - k) := (List.take_append_drop _ _).symm
    rw [List.drop_drop, show k + (q - k) = q by omega, drop_cons s q hq, hc] at h1
    exact h1
  rw [e]
  refine cut_hit ?_
  rw [bl_extract]
  exact h
theorem drop_ne {s : ByteArray} {k : Nat} (h : k < s.size) : (bl s).drop k ≠ [] := by
  intro e
  have := congrArg List.length e
  rw [List.length_drop, bl_length] at this
  simp at this
  omega
theorem drop_at (s : ByteArray) (q n : Nat) : ((bl s).drop q)[n]? = (bl s)[q + n]? := by rw [List.getElem?_drop]
/-- A file, in a new row of its own, behind a row that the call owns. -/
theorem file_ready2 {w : World} {B : Nat} {v : Value} {l : List FileB} (h : FOwn w B v l) (f : FileB) (hB : B ≤ w.heap.size) :
    World.ownsRow (w.alloc (.cells #[.string f.path, .bool f.run, .string f.text] 109)) B 109 3 v l.length (l.flatMap encFile) ∧
      (∀ j u, (encFile f)[j]? = some u → (w.alloc (.cells #[.string f.path, .bool f.run, .string f.text] 109)).cell? ((⟨w.heap.size, 0, none⟩ : Addr).add j) = some u) ∧ (∀ u ∈ encFile f, u.oneCell' = true) ∧ B ≤ (w.alloc (.cells #[.string f.path, .bool f.run, .string f.text] 109)).heap.size := by
  refine ⟨World.ownsRow.alloc h _, fun j u hj => ?_, fun u hu => ?_, by simp; omega⟩
  · match j, hj with
    | 0, hj => simp at hj; subst hj; simp [Addr.add]
    | 1, hj => simp at hj; subst hj; simp [Addr.add]
    | 2, hj => simp at hj; subst hj; simp [Addr.add]
  · simp at hu; rcases hu with rfl | rfl | rfl <;> rfl
theorem own_snoc {w : World} {B : Nat} {v : Value} {acc : List FileB} {f : FileB} (h : w.ownsRow B 109 3 v (acc.length + 1) (acc.flatMap encFile ++ encFile f)) : FOwn w B v (acc ++ [f]) := by
  show World.ownsRow _ _ _ _ _ _ _
  simpa using h
/-- What ReadPack hands back. -/
def RReadPost (s : ByteArray) (w : World) (e : Ending) (w' : World) : Prop :=
  (∃ v : Value, e = .returned (.tuple #[v, .agg (erA (readEr (bl s)))]) ∧ Hid (FArg w' v (readT (bl s)))) ∧ Below w.heap.size w w'
theorem RReadPost.non {s : ByteArray} {w w' : World} {er : Er} (h : readEr (bl s) = er) (h2 : readT (bl s) = []) (hb : Below w.heap.size w w') : RReadPost s w (.returned (.tuple #[.slice none 0 0, .agg (erA er)])) w' :=
  ⟨⟨_, by rw [h], by show FArg _ _ _; rw [h2]; exact ⟨⟨none, 0, rfl, Nat.le_refl _, Nat.zero_le _, fun i hi => absurd hi (Nat.not_lt_zero _)⟩, fun n c e => by injection e with _ e1 e2; exact ⟨e1.symm, e2.symm⟩⟩⟩, hb⟩
theorem RReadPost.bad {s : ByteArray} {w w' : World} {acc : List FileB} (h20 : ¬ 20000 < (bl s).length) (ha : allL (bl s) = (acc, false)) (hb : Below w.heap.size w w') : RReadPost s w (.returned (.tuple #[.slice none 0 0, .agg #[.int .i64 1, .int .i64 acc.length]])) w' :=
  RReadPost.non (readEr_bad h20 ha).1 (readEr_bad h20 ha).2 hb

set_option maxHeartbeats 4000000 in
set_option maxRecDepth 100000 in
theorem refReadPack_any (s : ByteArray) (w : World) (hs : s.size ≤ 1000000) :
    Calls Tryz.prog 123 #[.string s] w (RReadPost s w) := by
  obtain ⟨i0, hi0, hz0, hz1, hz2⟩ := info_parts Tryz.infoFile
  obtain ⟨g, hg⟩ : ∃ g, w.heap.size = g := ⟨_, rfl⟩
  obtain ⟨wg, hwg⟩ : ∃ wg, w.alloc (.cells #[.int .i64 0, .int .i64 0] 59) = wg := ⟨_, rfl⟩
  have hal : Below w.heap.size w wg := by rw [← hwg]; exact (Below.refl _ _).alloc (Nat.le_refl _) _
  have hA : wg.heap[g]? = some (.cells #[.int .i64 0, .int .i64 0] 59 (0, 0)) := by rw [← hwg, ← hg]; exact heap_alloc_new _ _
  have HGB := Lib.hid hA
  have hgl : g < wg.heap.size := (Array.getElem?_eq_some_iff.1 hA).1
  obtain ⟨B, hB⟩ : ∃ B, wg.heap.size = B := ⟨_, rfl⟩
  have hBw : B ≤ wg.heap.size := Nat.le_of_eq hB.symm
  have hwB : w.heap.size ≤ B := by rw [← hB]; exact hal.size
  have hgB : g < B := by rw [← hB]; exact hgl
  have hgw : w.heap.size ≤ g := Nat.le_of_eq hg
  have HBW := Lib.hid hal
  have HWA := Lib.hid hwg
  have HPA := Lib.hid hg
  have hsl : (bl s).length = s.size := bl_length s
  clear hal hA hB hwg hg hgl
  go_enter Tryz.func123, Tryz.ntmps123
  by_cases h20 : 20000 < s.size
  · have HX := Lib.hid (readEr_big (s := bl s) (by omega))
    have C := Lib.hid (refBare_any 2 wg)
    go_wp2_with fail
    rw [HWA.out, HPA.out]
    refine C.out.mono ?_
    clear C
    rintro e w1 ⟨rfl, hbx⟩
    have hb1 : Below B wg w1 := hbx.mono hBw
    have hg0 : w1.heap[g]? = some (.cells #[.int .i64 0, .int .i64 0] 59 (0, 0)) := (hb1.block g hgB).trans HGB.out
    have f0 : w1.frozen? ⟨g, 0, none⟩ = false := Lib.frozen_of_heap hg0 0
    have f1 : w1.frozen? ⟨g, 1, none⟩ = false := Lib.frozen_of_heap hg0 1
    have e0 : w1.cell? ⟨g, 0, none⟩ = some (.int .i64 0) := by rw [Lib.cell_of_heap hg0]; rfl
    have e1 : w1.cell? ⟨g, 1, none⟩ = some (.int .i64 0) := by rw [Lib.cell_of_heap hg0]; rfl
    obtain ⟨s0, s1, s2⟩ := fault_store hg0 (.int .i64 2) (.int .i64 (-1)) hgw
    have S0 := Lib.hid s0
    have S1 := Lib.hid s1
    have S2 := Lib.hid s2
    have HBF := Lib.hid ((HBW.out.trans (hb1.mono hwB)).trans S2.out)
    clear hg0 s0 s1 s2
    go_wp2_with fail
    exact bodyPost_ret (v := .tuple #[.slice none 0 0, .agg #[.int .i64 2, .int .i64 (-1)]]) (by simp [results, Tryz.results123, go_sem, S0.out, S1.out]) rfl (RReadPost.non HX.out.1 HX.out.2 HBF.out)
  · have HS20 : Hid (¬ 20000 < (bl s).length) := by show ¬ _; rw [hsl]; exact h20
    have hss : s.size ≤ 20000 := by omega
    clear h20
    go_wp2_with fail
    rw [HWA.out, HPA.out]
    go_loopw [4, 5, 6] (fun ov i _ wr => ∃ (k : Nat) (acc : List FileB), k ≤ s.size ∧ i = .int .i64 k ∧ Hid (PStep (bl s) acc ((bl s).drop k)) ∧ Hid (FOwn wr B ov acc) ∧ Below B wg wr) (fun _ i _ _ => s.size - (intOf i).toNat)
    case atStart => exact ⟨0, [], Nat.zero_le _, rfl, PStep.start _, FOwn.nil _ _, Below.refl _ _⟩
    case round =>
      obtain ⟨k, acc, hk, rfl, HP, HO, hb⟩ := hrel
      obtain ⟨oo, oc, rfl⟩ := HO.out.shape
      obtain ⟨hal, hsm, _⟩ := HP.out.small (by omega)
      have HSM := Lib.hid hsm
      clear hsm
      by_cases hks : k < s.size
      · have HNE := Lib.hid (drop_ne hks)
        go_wp2_with fail
        go_loopw [6] (fun j wi => ∃ q : Nat, k ≤ q ∧ q ≤ s.size ∧ j = .int .i64 q ∧ Hid (NoLine s k q) ∧ wi = wr) (fun j _ => s.size - (intOf j).toNat)
        case atStart => exact ⟨k, Nat.le_refl _, hk, rfl, by show (10 : UInt8) ∉ _; simp, rfl⟩
        case round =>
          obtain ⟨q, hkq, hq, rfl, HN, rfl⟩ := hrel
          have sl := slice_nat s k q k q hkq hq rfl rfl
          have hxs : (s.extract k q).size ≤ 1000000 := by simp; omega
          have C := Lib.hid (refCut_any (s.extract k q) 32 wr hxs)
          by_cases hlt : q < s.size
          · have ix : ∀ W : World, (Instr.index 9 (.string s) (.int .i64 (q : Int))).run Tryz.prog W = .ok (.int .u8 s[q].toNat) W := index_nat s q q hlt rfl
            by_cases hc : s[q] = 10
            · have HCUT := Lib.hid (cut_line HN.out hkq hlt hc)
              have hq10 : ((s[q].toNat : Int) == 10) = true := by rw [hc]; rfl
              have hqs : ((q : Int) == (s.size : Int)) = false := by rw [beq_eq_false_iff_ne]; omega
              clear HN hc
              go_wp2_with fail
              refine C.out.mono ?_
              clear C
              rintro e w1 ⟨v, zs, rfl, HR, HZ, hzl, hbx⟩
              have hb1 : Below B wg w1 := hb.trans (hbx.mono (Nat.le_trans hBw hb.size))
              have HO1 := Lib.hid (HO.out.ext hbx)
              obtain ⟨ao, cap, rfl, r1, r2, H3⟩ := HR.out.parts
              clear HR HO hbx sl ix hq10
              by_cases h3 : zs.length = 3
              · obtain ⟨z0, z1, z2, rfl⟩ : ∃ z0 z1 z2, zs = [z0, z1, z2] := by
                  match zs, h3 with
                  | [a, b, c], _ => exact ⟨a, b, c, rfl⟩
                obtain ⟨b, off, rfl, hbl, hcell⟩ := H3 0 (by simp)
                have q0 : w1.cell? ⟨b, off, none⟩ = some (.string z0) := hcell 0 (by simp)
                have q1 : w1.cell? ⟨b, off + 1, none⟩ = some (.string z1) := hcell 1 (by simp)
                have q2 : w1.cell? ⟨b, off + 2, none⟩ = some (.string z2) := hcell 2 (by simp)
                have HZ2 : Hid (cutL 32 (bl (s.extract k q)) = [bl z0, bl z1, bl z2]) := HZ.out.symm
                have hzs2 : z2.size ≤ 281474976710656 := by
                  have h : bl z2 ∈ cutL 32 (bl (s.extract k q)) := by rw [HZ2.out]; simp
                  have := cutL_size 32 (bl (s.extract k q)) _ h
                  rw [bl_length, bl_length] at this
                  omega
                clear H3 hcell HZ h3 hxs
                obtain ⟨X1, hF⟩ : ∃ X1 : Bool, (z1.toList == [102]) = X1 := ⟨_, rfl⟩
                obtain ⟨X, hX⟩ : ∃ X : Bool, (z1.toList == [120]) = X := ⟨_, rfl⟩
                have HM : Hid ((X1 = false ∧ X = false ∧ headL (bl (s.extract k q)) = none) ∨ ((X1 = true ∨ X = true) ∧ (∀ n, numOf (bl z2) 6 = some n → headL (bl (s.extract k q)) = some (bl z0, X, n)))) := by
                  show _ ∨ _
                  have e1 : (bl z1 == [120]) = X := by rw [← hX, Lib.toList_data]; rfl
                  have e0 : (bl z1 == [102]) = X1 := by rw [← hF, Lib.toList_data]; rfl
                  by_cases h : X1 = true ∨ X = true
                  · have hm : bl z1 = [102] ∨ bl z1 = [120] := by
                      rcases h with h | h
                      · rw [h] at e0; exact .inl (beq_iff_eq.1 e0)
                      · rw [h] at e1; exact .inr (beq_iff_eq.1 e1)
                    exact .inr ⟨h, fun n hn => by rw [head_yes HZ2.out hm hn, e1]⟩
                  · have h1 : X1 = false := by cases X1; rfl; exact absurd (Or.inl rfl) h
                    have h2 : X = false := by cases X; rfl; exact absurd (Or.inr rfl) h
                    rw [h1] at e0; rw [h2] at e1
                    exact .inl ⟨h1, h2, head_mode HZ2.out (beq_eq_false_iff_ne.1 e0) (beq_eq_false_iff_ne.1 e1)⟩
                have HNN := Lib.hid (fun h => head_num (a := bl (s.extract k q)) HZ2.out h)
                have C := Lib.hid (numberOf_any z2 6 (by decide) w1 hzs2)
                clear HZ2
                go_wp2_with fail
                refine C.out.mono ?_
                clear C
                rintro e w2 ⟨rfl, rfl⟩
                cases hn : numOf (bl z2) 6 with
                | none =>
                  have HAL := Lib.hid (HP.out.bad (piece_no2 HCUT.out (HNN.out hn)) HNE.out)
                  have hg0 : w1.heap[g]? = some (.cells #[.int .i64 0, .int .i64 0] 59 (0, 0)) := (hb1.block g hgB).trans HGB.out
                  have f0 : w1.frozen? ⟨g, 0, none⟩ = false := Lib.frozen_of_heap hg0 0
                  have f1 : w1.frozen? ⟨g, 1, none⟩ = false := Lib.frozen_of_heap hg0 1
                  have e0 : w1.cell? ⟨g, 0, none⟩ = some (.int .i64 0) := by rw [Lib.cell_of_heap hg0]; rfl
                  have e1 : w1.cell? ⟨g, 1, none⟩ = some (.int .i64 0) := by rw [Lib.cell_of_heap hg0]; rfl
                  obtain ⟨s0, s1, s2⟩ := fault_store hg0 (.int .i64 1) (.int .i64 acc.length) hgw
                  have S0 := Lib.hid s0
                  have S1 := Lib.hid s1
                  have S2 := Lib.hid s2
                  have HBF := Lib.hid ((HBW.out.trans (hb1.mono hwB)).trans S2.out)
                  clear hg0 s0 s1 s2
                  go_wp2_with fail
                  exact bodyPost_ret (v := .tuple #[.slice none 0 0, .agg #[.int .i64 1, .int .i64 acc.length]]) (by simp [results, Tryz.results123, go_sem, S0.out, S1.out]) rfl (RReadPost.bad HS20.out HAL.out HBF.out)
                | some n =>
                  rw [show numI (some n) = (n : Int) from rfl]
                  have HNM := Lib.hid hn
                  have hn6 : n < 1000000 := num_six hn
                  clear hn HNN
                  by_cases hFX : X1 = false ∧ X = false
                  · obtain ⟨rfl, rfl⟩ := hFX
                    have HAL : Hid (allL (bl s) = (acc, false)) := by
                      rcases HM.out with h | h
                      · exact HP.out.bad (piece_no2 HCUT.out h.2.2) HNE.out
                      · rcases h.1 with h | h <;> cases h
                    have hg0 : w1.heap[g]? = some (.cells #[.int .i64 0, .int .i64 0] 59 (0, 0)) := (hb1.block g hgB).trans HGB.out
                    have f0 : w1.frozen? ⟨g, 0, none⟩ = false := Lib.frozen_of_heap hg0 0
                    have f1 : w1.frozen? ⟨g, 1, none⟩ = false := Lib.frozen_of_heap hg0 1
                    have e0 : w1.cell? ⟨g, 0, none⟩ = some (.int .i64 0) := by rw [Lib.cell_of_heap hg0]; rfl
                    have e1 : w1.cell? ⟨g, 1, none⟩ = some (.int .i64 0) := by rw [Lib.cell_of_heap hg0]; rfl
                    obtain ⟨s0, s1, s2⟩ := fault_store hg0 (.int .i64 1) (.int .i64 acc.length) hgw
                    have S0 := Lib.hid s0
                    have S1 := Lib.hid s1
                    have S2 := Lib.hid s2
                    have HBF := Lib.hid ((HBW.out.trans (hb1.mono hwB)).trans S2.out)
                    clear hg0 s0 s1 s2
                    go_wp2_with fail
                    exact bodyPost_ret (v := .tuple #[.slice none 0 0, .agg #[.int .i64 1, .int .i64 acc.length]]) (by simp [results, Tryz.results123, go_sem, S0.out, S1.out]) rfl (RReadPost.bad HS20.out HAL.out HBF.out)
                  · have HH : Hid (headL (bl (s.extract k q)) = some (bl z0, X, n)) := by
                      rcases HM.out with h | h
                      · exact absurd ⟨h.1, h.2.1⟩ hFX
                      · exact h.2 n HNM.out
                    have hmm : X1 = true ∨ (X1 = false ∧ X = true) := by
                      cases X1
                      · cases X
                        · exact absurd ⟨rfl, rfl⟩ hFX
                        · exact .inr ⟨rfl, rfl⟩
                      · exact .inl rfl
                    clear HM hFX HNM
                    by_cases h2 : q + 1 + n < s.size
                    · have i1 := index_nat s ((q : Int) + 1 + n) (q + 1 + n) h2 (by omega)
                      have s2 := slice_nat s ((q : Int) + 1) ((q : Int) + 1 + n) (q + 1) (q + 1 + n) (by omega) (by omega) (by omega) (by omega)
                      have HTW := Lib.hid (bl_at s (q + 1 + n) h2)
                      generalize hA : s[q + 1 + n]'h2 = A at i1 HTW
                      clear hA
                      by_cases c1 : A = 10
                      · have q10 : ((A.toNat : Int) != 10) = false := by rw [c1]; rfl
                        have HPC : Hid (pieceL ((bl s).drop k) = some (⟨z0, X, s.extract (q + 1) (q + 1 + n)⟩, (bl s).drop (q + n + 2))) := by
                          show _ = _
                          rw [piece_yes HCUT.out HH.out (by rw [drop_at, HTW.out, c1]), List.drop_drop, show q + 1 + (n + 1) = q + n + 2 by omega]
                          rw [← mkF_bl z0 (s.extract (q + 1) (q + 1 + n)) X, bl_extract, show q + 1 + n - (q + 1) = n by omega]
                        generalize s.extract (q + 1) (q + 1 + n) = t at s2 HPC
                        have HP2 := Lib.hid (HP.out.next HPC.out)
                        obtain ⟨r1', r2', r3', r4'⟩ := file_ready2 (w := w1.drew) (v := .slice oo acc.length oc) (l := acc) (HO1.out.ext (below_drewN _ w1 1)) ⟨z0, X, t⟩ (by have := hb1.size; show B ≤ w1.heap.size; omega)
                        have hm1 : acc.length + 1 ≤ maxLen := by rw [maxLen_eq]; omega
                        have hm2 : (acc.length + 1) * 40 ≤ 140737488355328 := by omega
                        have hwr1 : IntKind.i64.wrap ((q : Int) + 1) = (q : Int) + 1 := IntWalk.i64_in _ (by omega)
                        have hwr2 : IntKind.i64.wrap ((q : Int) + 1 + n) = (q : Int) + 1 + n := IntWalk.i64_in _ (by omega)
                        clear HP HPC HCUT HH HTW c1
                        rcases hmm with rfl | ⟨rfl, rfl⟩
                        all_goals
                          go_wp2_with fail
                          go_region_law (refine step_append_own rfl _ _ 48 rfl B 109 i0 (.agg #[.string ⟨#[]⟩, .bool false, .string ⟨#[]⟩]) 3 40 Tryz.underlying48 hi0 hz0 hz1 hz2 rfl (by decide) (.slice oo acc.length oc) acc.length _ rfl r1' ⟨w1.heap.size, 0, none⟩ 1 1 (encFile ⟨z0, _, t⟩) rfl rfl r2' r3' hm1 hm2 r4' ?_; intro v' w3 hown' hgrow)
                          all_goals
                            have hown2 := Lib.hid (own_snoc hown')
                            have hb3 : Below B wg w3 := ((hb1.alloc (Nat.le_trans hBw hb1.size) _).drew).grown hgrow r4' (fun p hp => (World.ownsRow.lt HO1.out p hp).1)
                            clear hown' hgrow r1' r2' r3' r4' hwr1 hwr2
                            go_wp2_with fail
                            go_roundw
                            case rel => exact ⟨q + n + 2, _, by omega, by go_num, HP2, hown2, hb3⟩
                            case measure => simp [intOf]; omega
                      · have q10 : ((A.toNat : Int) != 10) = true := by
                          rw [bne_iff_ne]; intro h; exact c1 (UInt8.toNat_inj.1 (by have : ((10 : UInt8).toNat : Int) = 10 := rfl; omega))
                        have HAL := Lib.hid (HP.out.bad (piece_no3 HCUT.out HH.out (by rw [drop_at, HTW.out]; intro h; exact c1 (Option.some.inj h))) HNE.out)
                        rcases hmm with rfl | ⟨rfl, rfl⟩
                        all_goals
                          have hg0 : w1.heap[g]? = some (.cells #[.int .i64 0, .int .i64 0] 59 (0, 0)) := (hb1.block g hgB).trans HGB.out
                          have f0 : w1.frozen? ⟨g, 0, none⟩ = false := Lib.frozen_of_heap hg0 0
                          have f1 : w1.frozen? ⟨g, 1, none⟩ = false := Lib.frozen_of_heap hg0 1
                          have e0 : w1.cell? ⟨g, 0, none⟩ = some (.int .i64 0) := by rw [Lib.cell_of_heap hg0]; rfl
                          have e1 : w1.cell? ⟨g, 1, none⟩ = some (.int .i64 0) := by rw [Lib.cell_of_heap hg0]; rfl
                          obtain ⟨s0, s1, s2⟩ := fault_store hg0 (.int .i64 1) (.int .i64 acc.length) hgw
                          have S0 := Lib.hid s0
                          have S1 := Lib.hid s1
                          have S2 := Lib.hid s2
                          have HBF := Lib.hid ((HBW.out.trans (hb1.mono hwB)).trans S2.out)
                          clear hg0 s0 s1 s2
                          go_wp2_with fail
                          exact bodyPost_ret (v := .tuple #[.slice none 0 0, .agg #[.int .i64 1, .int .i64 acc.length]]) (by simp [results, Tryz.results123, go_sem, S0.out, S1.out]) rfl (RReadPost.bad HS20.out HAL.out HBF.out)
                    · have HAL := Lib.hid (HP.out.bad (piece_no3 HCUT.out HH.out (by rw [drop_at, List.getElem?_eq_none (by rw [bl_length]; omega)]; simp)) HNE.out)
                      rcases hmm with rfl | ⟨rfl, rfl⟩
                      all_goals
                        have hg0 : w1.heap[g]? = some (.cells #[.int .i64 0, .int .i64 0] 59 (0, 0)) := (hb1.block g hgB).trans HGB.out
                        have f0 : w1.frozen? ⟨g, 0, none⟩ = false := Lib.frozen_of_heap hg0 0
                        have f1 : w1.frozen? ⟨g, 1, none⟩ = false := Lib.frozen_of_heap hg0 1
                        have e0 : w1.cell? ⟨g, 0, none⟩ = some (.int .i64 0) := by rw [Lib.cell_of_heap hg0]; rfl
                        have e1 : w1.cell? ⟨g, 1, none⟩ = some (.int .i64 0) := by rw [Lib.cell_of_heap hg0]; rfl
                        obtain ⟨s0, s1, s2⟩ := fault_store hg0 (.int .i64 1) (.int .i64 acc.length) hgw
                        have S0 := Lib.hid s0
                        have S1 := Lib.hid s1
                        have S2 := Lib.hid s2
                        have HBF := Lib.hid ((HBW.out.trans (hb1.mono hwB)).trans S2.out)
                        clear hg0 s0 s1 s2
                        go_wp2_with fail
                        exact bodyPost_ret (v := .tuple #[.slice none 0 0, .agg #[.int .i64 1, .int .i64 acc.length]]) (by simp [results, Tryz.results123, go_sem, S0.out, S1.out]) rfl (RReadPost.bad HS20.out HAL.out HBF.out)
              · have h3' : ((zs.length : Int) == 3) = false := by rw [beq_eq_false_iff_ne]; omega
                have HAL := Lib.hid (HP.out.bad (piece_no2 HCUT.out (head_len (by
                  have := congrArg List.length HZ.out
                  rw [List.length_map] at this
                  omega))) HNE.out)
                have hg0 : w1.heap[g]? = some (.cells #[.int .i64 0, .int .i64 0] 59 (0, 0)) := (hb1.block g hgB).trans HGB.out
                have f0 : w1.frozen? ⟨g, 0, none⟩ = false := Lib.frozen_of_heap hg0 0
                have f1 : w1.frozen? ⟨g, 1, none⟩ = false := Lib.frozen_of_heap hg0 1
                have e0 : w1.cell? ⟨g, 0, none⟩ = some (.int .i64 0) := by rw [Lib.cell_of_heap hg0]; rfl
                have e1 : w1.cell? ⟨g, 1, none⟩ = some (.int .i64 0) := by rw [Lib.cell_of_heap hg0]; rfl
                obtain ⟨s0, s1, s2⟩ := fault_store hg0 (.int .i64 1) (.int .i64 acc.length) hgw
                have S0 := Lib.hid s0
                have S1 := Lib.hid s1
                have S2 := Lib.hid s2
                have HBF := Lib.hid ((HBW.out.trans (hb1.mono hwB)).trans S2.out)
                clear hg0 s0 s1 s2
                go_wp2_with fail
                exact bodyPost_ret (v := .tuple #[.slice none 0 0, .agg #[.int .i64 1, .int .i64 acc.length]]) (by simp [results, Tryz.results123, go_sem, S0.out, S1.out]) rfl (RReadPost.bad HS20.out HAL.out HBF.out)
            · have hq10 : ((s[q].toNat : Int) == 10) = false := by
                rw [beq_eq_false_iff_ne]; intro h; exact hc (UInt8.toNat_inj.1 (by have : ((10 : UInt8).toNat : Int) = 10 := rfl; omega))
              have HN2 := Lib.hid (HN.out.next hkq hlt hc)
              clear HN hc C sl
              go_wp2_with fail
              go_roundw
              case rel => exact ⟨q + 1, by omega, by omega, by go_num, HN2, trivial⟩
              case measure => simp [intOf]; omega
          · obtain rfl : q = s.size := by omega
            have HAL := Lib.hid (HP.out.bad (line_miss HN.out) HNE.out)
            clear HN
            go_wp2_with fail
            refine C.out.mono ?_
            clear C
            rintro e w1 ⟨v, zs, rfl, HR, HZ, hzl, hbx⟩
            have hb1 : Below B wg w1 := hb.trans (hbx.mono (Nat.le_trans hBw hb.size))
            obtain ⟨ao, cap, rfl, r1, r2, H3⟩ := HR.out.parts
            clear HR HO hbx sl H3 HZ
            have hg0 : w1.heap[g]? = some (.cells #[.int .i64 0, .int .i64 0] 59 (0, 0)) := (hb1.block g hgB).trans HGB.out
            have f0 : w1.frozen? ⟨g, 0, none⟩ = false := Lib.frozen_of_heap hg0 0
            have f1 : w1.frozen? ⟨g, 1, none⟩ = false := Lib.frozen_of_heap hg0 1
            have e0 : w1.cell? ⟨g, 0, none⟩ = some (.int .i64 0) := by rw [Lib.cell_of_heap hg0]; rfl
            have e1 : w1.cell? ⟨g, 1, none⟩ = some (.int .i64 0) := by rw [Lib.cell_of_heap hg0]; rfl
            obtain ⟨s0, s1, s2⟩ := fault_store hg0 (.int .i64 1) (.int .i64 acc.length) hgw
            have S0 := Lib.hid s0
            have S1 := Lib.hid s1
            have S2 := Lib.hid s2
            have HBF := Lib.hid ((HBW.out.trans (hb1.mono hwB)).trans S2.out)
            clear hg0 s0 s1 s2
            go_wp2_with fail
            exact bodyPost_ret (v := .tuple #[.slice none 0 0, .agg #[.int .i64 1, .int .i64 acc.length]]) (by simp [results, Tryz.results123, go_sem, S0.out, S1.out]) rfl (RReadPost.bad HS20.out HAL.out HBF.out)
      · obtain rfl : k = s.size := by omega
        have HA : Hid (allL (bl s) = (acc, true)) := by
          have := HP.out
          rw [List.drop_of_length_le (by rw [bl_length]; exact Nat.le_refl _)] at this
          exact this.done
        have HX := Lib.hid (readEr_all HS20.out HA.out)
        have C := Lib.hid (refTreeFault_any _ acc wr HO.out.arg.1 (by omega) HSM.out)
        clear HP HA
        go_wp2_with fail
        refine C.out.mono ?_
        clear C
        rintro e w1 ⟨rfl, hbx⟩
        have hb1 : Below B wg w1 := hb.trans (hbx.mono (Nat.le_trans hBw hb.size))
        have HO1 := Lib.hid (HO.out.ext hbx)
        have hg1 : w1.heap[g]? = some (.cells #[.int .i64 0, .int .i64 0] 59 (0, 0)) := (hb1.block g hgB).trans HGB.out
        obtain ⟨er, her⟩ : ∃ er, treeEr acc = er := ⟨_, rfl⟩
        rw [her] at HX ⊢
        unfold erA
        obtain ⟨c, hc⟩ : ∃ c : Int, (er.code : Int) = c := ⟨_, rfl⟩
        have hc0 : 0 ≤ c := by omega
        obtain ⟨a, ha⟩ : ∃ a : Int, er.at?.getD (-1) = a := ⟨_, rfl⟩
        rw [hc, ha]
        have HEA : Hid (erA er = #[.int .i64 c, .int .i64 a]) := by show _ = _; unfold erA; rw [hc, ha]
        have HTC : Hid ((er.code : Int) = c) := hc
        clear her hc ha hbx HO hb
        obtain ⟨q, hq⟩ : ∃ q, w1.heap.size = q := ⟨_, rfl⟩
        obtain ⟨w2, hw2⟩ : ∃ w2, w1.alloc (.cells #[.int .i64 c, .int .i64 a] 59) = w2 := ⟨_, rfl⟩
        have hal2 : Below w1.heap.size w1 w2 := by rw [← hw2]; exact (Below.refl _ _).alloc (Nat.le_refl _) _
        have hA2 : w2.heap[q]? = some (.cells #[.int .i64 c, .int .i64 a] 59 (0, 0)) := by rw [← hw2, ← hq]; exact heap_alloc_new _ _
        have hg2 : w2.heap[g]? = some (.cells #[.int .i64 0, .int .i64 0] 59 (0, 0)) := (hal2.block g (Array.getElem?_eq_some_iff.1 hg1).1).trans hg1
        have hb2 : Below B wg w2 := hb1.trans (hal2.mono (Nat.le_trans hBw hb1.size))
        have HO2 := Lib.hid (HO1.out.ext hal2)
        have HW2 := Lib.hid hw2
        have HQ := Lib.hid hq
        have d0 : w2.cell? ⟨q, 0, none⟩ = some (.int .i64 c) := by rw [Lib.cell_of_heap hA2]; rfl
        have d1 : w2.cell? ⟨q, 1, none⟩ = some (.int .i64 a) := by rw [Lib.cell_of_heap hA2]; rfl
        clear hw2 hq hal2 hg1 hb1 hA2 HO1 hg2
        have hg0 : w2.heap[g]? = some (.cells #[.int .i64 0, .int .i64 0] 59 (0, 0)) := (hb2.block g hgB).trans HGB.out
        have f0 : w2.frozen? ⟨g, 0, none⟩ = false := Lib.frozen_of_heap hg0 0
        have f1 : w2.frozen? ⟨g, 1, none⟩ = false := Lib.frozen_of_heap hg0 1
        have e0 : w2.cell? ⟨g, 0, none⟩ = some (.int .i64 0) := by rw [Lib.cell_of_heap hg0]; rfl
        have e1 : w2.cell? ⟨g, 1, none⟩ = some (.int .i64 0) := by rw [Lib.cell_of_heap hg0]; rfl
        obtain ⟨s0, s1, s2⟩ := fault_store hg0 (.int .i64 c) (.int .i64 a) hgw
        have S0 := Lib.hid s0
        have S1 := Lib.hid s1
        have S2 := Lib.hid s2
        have HBF := Lib.hid ((HBW.out.trans (hb2.mono hwB)).trans S2.out)
        clear hg0 s0 s1 s2
        have HSO : Hid (FOwn ((w2.setCell ⟨g, 0, none⟩ (.int .i64 c)).setCell ⟨g, 1, none⟩ (.int .i64 a)) B (.slice oo acc.length oc) acc) := ownsRow_setCell_below (ownsRow_setCell_below HO2.out (a := ⟨g, 0, none⟩) hgB (.int .i64 c)) (a := ⟨g, 1, none⟩) hgB (.int .i64 a)
        clear HO2
        rcases Int.lt_or_eq_of_le hc0 with hpos | rfl
        case inr =>
          have HRT : Hid (readT (bl s) = acc) := by show _ = _; rw [HX.out.2, if_pos (by have := HTC.out; omega)]
          go_wp2_with fail
          rw [HW2.out, HQ.out]
          go_region
          all_goals
            go_wp2_with fail
            exact bodyPost_ret (v := .tuple #[.slice oo acc.length oc, .agg #[.int .i64 0, .int .i64 a]]) (by simp [results, Tryz.results123, go_sem, S0.out, S1.out]) rfl ⟨⟨_, by rw [HX.out.1, HEA.out], by show FArg _ _ _; rw [HRT.out]; exact ⟨HSO.out.arg.1, HSO.out.arg.2⟩⟩, HBF.out.drew⟩
        case inl =>
          have HRT : Hid (readT (bl s) = []) := by show _ = _; rw [HX.out.2, if_neg (by have := HTC.out; omega)]
          go_wp2_with fail
          rw [HW2.out, HQ.out]
          go_region
          all_goals
            go_wp2_with fail
            exact bodyPost_ret (v := .tuple #[.slice none 0 0, .agg #[.int .i64 c, .int .i64 a]]) (by simp [results, Tryz.results123, go_sem, S0.out, S1.out]) rfl (by rw [← HEA.out]; exact RReadPost.non HX.out.1 HRT.out HBF.out.drew)
end Go.Proofs.YtgchgdkpipanjaaGreatDoor
