/- The reference's TreeFault: the contract. -/
import Derived.Test.YtcjjbpoaojjojaaGreatDoorJToldEtc
import Derived.Test.YtcjjbpoaojjojaaGreatDoorJPathedEtc
namespace Go.Proofs.YtcjjbpoaojjojaaGreatDoor
open Go Go.RowKit

/-- What TreeFault hands back. -/
def RTPost (l : List FileB) (w : World) (e : Ending) (w' : World) : Prop := e = .returned (.agg (erA (treeEr l))) ∧ Below w.heap.size w w'
/-- Between the files ahead: no error yet, or the file's. -/
def FSt (ahead : List FileB) (f : FileB) (ec q : Nat) : Prop := (ec = 0 ∧ fileE ahead f = if (ahead.drop q).any (fun g => inB (bl f.path) (bl g.path)) = true then 11 else 0) ∨ (ec ≠ 0 ∧ fileE ahead f = ec)

set_option maxHeartbeats 4000000 in
set_option maxRecDepth 100000 in
theorem refTreeFault_any (v : Value) (l : List FileB) (w : World) (hv : FRow w v l) (hl : l.length ≤ 10000) (hS : ∀ f ∈ l, SmallF f) :
    Calls Tryz.prog 180 #[v] w (RTPost l w) := by
  obtain ⟨ao, cap, rfl, h1, h2, H3⟩ := hv
  have HM := Lib.hid H3
  have HSM := Lib.hid hS
  clear H3 hS
  obtain ⟨g, hg⟩ : ∃ g, w.heap.size = g := ⟨_, rfl⟩
  obtain ⟨wg, hwg⟩ : ∃ wg, w.alloc (.cells #[.int .i64 0, .int .i64 0] 38) = wg := ⟨_, rfl⟩
  have hal : Below w.heap.size w wg := by rw [← hwg]; exact (Below.refl _ _).alloc (Nat.le_refl _) _
  have hA : wg.heap[g]? = some (.cells #[.int .i64 0, .int .i64 0] 38 (0, 0)) := by rw [← hwg, ← hg]; exact heap_alloc_new _ _
  have HGB := Lib.hid hA
  have hgl : g < wg.heap.size := (Array.getElem?_eq_some_iff.1 hA).1
  obtain ⟨B, hB⟩ : ∃ B, wg.heap.size = B := ⟨_, rfl⟩
  have hBw : B ≤ wg.heap.size := Nat.le_of_eq hB.symm
  have hwB : w.heap.size ≤ B := by rw [← hB]; exact hal.size
  have hgB : g < B := by rw [← hB]; exact hgl
  have hgw : w.heap.size ≤ g := Nat.le_of_eq hg
  have HBW := Lib.hid hal
  have HWA := Lib.hid hwg
  have HPA := Lib.hid hg
  clear hal hA hB hwg hg hgl
  go_enter Tryz.func180, Tryz.ntmps180
  by_cases h30 : l.length ≤ 30
  · have hm30 : decide ((30 : Int) < (l.length : Int)) = false := decide_eq_false (by omega)
    go_wp2_with fail
    rw [HWA.out, HPA.out]
    go_loopw [3, 4] (fun sv i wr => ∃ k : Nat, k ≤ l.length ∧ i = .int .i64 k ∧ sv = .int .i64 (allText (l.take k) : Nat) ∧ allText (l.take k) ≤ 100000 * k ∧ Hid (filesE [] 0 l = filesE (l.take k) k (l.drop k)) ∧ Below B wg wr) (fun _ i _ => l.length - (intOf i).toNat)
    case atStart => exact ⟨0, Nat.zero_le _, rfl, rfl, Nat.zero_le _, rfl, Below.refl _ _⟩
    case round =>
      obtain ⟨k, hk, rfl, rfl, hall, HF, hb⟩ := hrel
      have hbw : Below w.heap.size w wr := HBW.out.trans (hb.mono hwB)
      by_cases hlt : k < l.length
      · obtain ⟨b, off, rfl, hbl, hcell⟩ := HM.out k hlt
        have HCE := Lib.hid hcell
        obtain ⟨d0, d1, d2⟩ := hcell k hlt
        have sz := HSM.out l[k] (List.getElem_mem hlt)
        have HTK : Hid (l.take (k + 1) = l.take k ++ [l[k]]) := by show _ = _; rw [List.take_add_one, List.getElem?_eq_getElem hlt]; rfl
        have HAT := Lib.hid (fun c => treeEr_at (c := c) h30 hlt HF.out)
        have HST := Lib.hid (filesE_step hlt)
        clear hcell d1
        obtain ⟨f, hf⟩ : ∃ f, l[k] = f := ⟨_, rfl⟩
        rw [hf] at d0 d2 sz HTK HAT HST
        clear hf
        have cl1 := (hbw.cell (p := ⟨b, off + k * 3, none⟩) hbl).trans d0
        have cl2 := (hbw.cell (p := ⟨b, off + k * 3 + 2, none⟩) hbl).trans d2
        have C := Lib.hid (refPathError_any f.path wr (by have := sz.1; omega))
        go_wp2_with fail
        refine C.out.mono ?_
        clear C
        rintro e w1 ⟨rfl, hbx⟩
        have hb1 := hb.trans (hbx.mono (Nat.le_trans hBw hb.size))
        have hbw1 : Below w.heap.size w w1 := HBW.out.trans (hb1.mono hwB)
        have k1 := (hbw1.cell (p := ⟨b, off + k * 3, none⟩) hbl).trans d0
        have k2 := (hbw1.cell (p := ⟨b, off + k * 3 + 2, none⟩) hbl).trans d2
        clear cl1 cl2 hbx hb hbw
        have hle := partsE_le (bl f.path)
        obtain ⟨c, hc⟩ : ∃ c, partsE (bl f.path) = c := ⟨_, rfl⟩
        rw [hc] at hle ⊢
        have HC := Lib.hid hc
        clear hc
        cases c with
        | succ c =>
          have HEN : Hid (FSt (l.take k) f (c + 1) 0) := .inr ⟨by omega, by unfold fileE; rw [if_pos (by rw [HC.out]; omega), HC.out]⟩
          go_wp2_with fail
          go_loopw [5, 6, 7] (fun ev ki _ wq => ∃ (q : Nat) (ec : Nat), q ≤ k ∧ ki = .int .i64 q ∧ ev = .int .i64 ec ∧ Hid (FSt (l.take k) f ec q) ∧ Below B wg wq) (fun _ i _ _ => k + 1 - (intOf i).toNat)
          case atStart => exact ⟨0, c + 1, Nat.zero_le _, rfl, rfl, HEN, hb1⟩
          case round =>
            obtain ⟨q, ec, hq, rfl, rfl, HO, hbq⟩ := hrel
            have hbwq : Below w.heap.size w wr := HBW.out.trans (hbq.mono hwB)
            have cl1 := (hbwq.cell (p := ⟨b, off + k * 3, none⟩) hbl).trans d0
            have cl2 := (hbwq.cell (p := ⟨b, off + k * 3 + 2, none⟩) hbl).trans d2
            by_cases hec : ec = 0
            · subst hec
              have HO2 : Hid (fileE (l.take k) f = if ((l.take k).drop q).any (fun g => inB (bl f.path) (bl g.path)) = true then 11 else 0) := by
                rcases HO.out with h | h
                · exact h.2
                · exact absurd rfl h.1
              clear HO
              by_cases hqt : q < k
              · obtain ⟨x0, _, _⟩ := HCE.out q (by omega)
                have cl4 := (hbwq.cell (p := ⟨b, off + q * 3, none⟩) hbl).trans x0
                have sg := (HSM.out (l[q]'(by omega)) (List.getElem_mem _)).1
                have HD : Hid ((l.take k).drop q = (l[q]'(by omega)) :: (l.take k).drop (q + 1)) := by
                  show _ = _
                  rw [List.drop_eq_getElem_cons (by rw [List.length_take]; omega), List.getElem_take]
                clear x0
                generalize (l[q]'(by omega)) = gg at cl4 sg HD
                have C := Lib.hid (refIsIn_any f.path gg.path wr.drew (by have := sz.1; omega) (by omega))
                have hqk1 : decide (q < k) = true := decide_eq_true hqt
                have hql : (q : Int) < (l.length : Int) := by omega
                have hkl2 : (k : Int) < (l.length : Int) := by omega
                go_wp2_with fail
                go_region_held3 (fun W : World => W.cell? ⟨b, off + k * 3, none⟩ = some (.string f.path) ∧ W.cell? ⟨b, off + q * 3, none⟩ = some (.string gg.path)) (first | exact ⟨y1, y4⟩ | exact ⟨cl1, cl4⟩)
                  (first
                    | (go_at_call 229; refine C.out.mono ?_; rintro e w4 ⟨rfl, hb4⟩; have y1 := (hb4.cell (p := ⟨b, off + k * 3, none⟩) (World.block_lt_of_cell? _ _ cl1)).trans cl1; have y4 := (hb4.cell (p := ⟨b, off + q * 3, none⟩) (World.block_lt_of_cell? _ _ cl4)).trans cl4))
                have hb5 : Below B wg w4 := (hbq.trans (below_drewN _ _ 1)).trans (hb4.mono (Nat.le_trans hBw hbq.size))
                have HO3 : Hid (FSt (l.take k) f (if inB (bl f.path) (bl gg.path) = true then 11 else 0) (q + 1)) := by
                  show FSt _ _ _ _
                  unfold FSt
                  rw [HO2.out, HD.out, List.any_cons]
                  by_cases h : inB (bl f.path) (bl gg.path) = true
                  · rw [h]; exact .inr ⟨by simp, by simp⟩
                  · rw [Bool.not_eq_true] at h
                    rw [h]; exact .inl ⟨rfl, by simp⟩
                clear C hqk1 hql hkl2 HO2 HD cl1 cl2 cl4 y1 y4 hb4
                cases hin : inB (bl f.path) (bl gg.path) with
                | true =>
                  rw [hin, if_pos rfl] at HO3
                  clear hin
                  go_wp2_with fail
                  go_roundw
                  case rel => exact ⟨q + 1, 11, by omega, by go_num, rfl, HO3, hb5⟩
                  case measure => simp [intOf]; omega
                | false =>
                  rw [hin, if_neg (by simp)] at HO3
                  clear hin
                  go_wp2_with fail
                  go_roundw
                  case rel => exact ⟨q + 1, 0, by omega, by go_num, rfl, HO3, hb5⟩
                  case measure => simp [intOf]; omega
              · obtain rfl : q = k := by omega
                have h0 : fileE (l.take q) f = 0 := by rw [HO2.out, List.drop_of_length_le (by rw [List.length_take]; omega)]; rfl
                have HF2 : Hid (filesE [] 0 l = filesE (l.take (q + 1)) (q + 1) (l.drop (q + 1))) := by
                  show _ = _
                  rw [HF.out, HST.out, if_pos h0]
                have HAL : Hid (allText (l.take (q + 1)) = allText (l.take q) + f.text.size) := by show _ = _; rw [HTK.out, allText_snoc]
                have hqq : decide (q < q) = false := decide_eq_false (by omega)
                have hts : f.text.size ≤ 100000 := sz.2
                clear h0 HO2 HF HST HTK
                go_wp2_with fail
                go_roundw
                case rel => exact ⟨q + 1, by omega, by go_num, by rw [HAL.out]; go_num, by rw [HAL.out]; omega, HF2, hbq⟩
                case measure => simp [intOf]; omega
            · have hec1 : 0 < ec := Nat.pos_of_ne_zero hec
              have HO2 : Hid (fileE (l.take k) f = ec) := by
                rcases HO.out with h | h
                · exact absurd h.1 hec
                · exact h.2
              obtain ⟨ec', rfl⟩ : ∃ ec', ec = ec' + 1 := ⟨ec - 1, by omega⟩
              have HY := Lib.hid (HAT.out ec' HO2.out)
              have he0 : (((ec' : Int) + 1) == 0) = false := by simpa using (by omega : (ec' : Int) + 1 ≠ 0)
              have hg0 : wr.heap[g]? = some (.cells #[.int .i64 0, .int .i64 0] 38 (0, 0)) := (hbq.block g hgB).trans HGB.out
              have f0 : wr.frozen? ⟨g, 0, none⟩ = false := Lib.frozen_of_heap hg0 0
              have f1 : wr.frozen? ⟨g, 1, none⟩ = false := Lib.frozen_of_heap hg0 1
              have e0 : wr.cell? ⟨g, 0, none⟩ = some (.int .i64 0) := by rw [Lib.cell_of_heap hg0]; rfl
              have e1 : wr.cell? ⟨g, 1, none⟩ = some (.int .i64 0) := by rw [Lib.cell_of_heap hg0]; rfl
              obtain ⟨s0, s1, s2⟩ := fault_store hg0 (.int .i64 ((ec' : Int) + 1)) (.int .i64 k) hgw
              have S0 := Lib.hid s0
              have S1 := Lib.hid s1
              have S2 := Lib.hid s2
              clear hg0 s0 s1 s2 HO HO2 hec
              go_wp2_with fail
              all_goals exact bodyPost_ret (v := .agg #[.int .i64 ((ec' : Int) + 1), .int .i64 k]) (by simp [results, Tryz.results180, go_sem, S0.out, S1.out]) rfl ⟨by rw [HY.out]; rfl, hbwq.trans S2.out⟩
        | zero =>
          by_cases ht : 4000 < f.text.size
          · have HEN : Hid (FSt (l.take k) f 2 0) := .inr ⟨by omega, by unfold fileE; rw [if_neg (by rw [HC.out]; simp), if_pos ht]⟩
            have hmt : decide ((4000 : Int) < (f.text.size : Int)) = true := decide_eq_true (by omega)
            go_wp2_with fail
            go_loopw [5, 6, 7] (fun ev ki _ wq => ∃ (q : Nat) (ec : Nat), q ≤ k ∧ ki = .int .i64 q ∧ ev = .int .i64 ec ∧ Hid (FSt (l.take k) f ec q) ∧ Below B wg wq) (fun _ i _ _ => k + 1 - (intOf i).toNat)
            case atStart => exact ⟨0, 2, Nat.zero_le _, rfl, rfl, HEN, hb1⟩
            case round =>
              obtain ⟨q, ec, hq, rfl, rfl, HO, hbq⟩ := hrel
              have hbwq : Below w.heap.size w wr := HBW.out.trans (hbq.mono hwB)
              have cl1 := (hbwq.cell (p := ⟨b, off + k * 3, none⟩) hbl).trans d0
              have cl2 := (hbwq.cell (p := ⟨b, off + k * 3 + 2, none⟩) hbl).trans d2
              by_cases hec : ec = 0
              · subst hec
                have HO2 : Hid (fileE (l.take k) f = if ((l.take k).drop q).any (fun g => inB (bl f.path) (bl g.path)) = true then 11 else 0) := by
                  rcases HO.out with h | h
                  · exact h.2
                  · exact absurd rfl h.1
                clear HO
                by_cases hqt : q < k
                · obtain ⟨x0, _, _⟩ := HCE.out q (by omega)
                  have cl4 := (hbwq.cell (p := ⟨b, off + q * 3, none⟩) hbl).trans x0
                  have sg := (HSM.out (l[q]'(by omega)) (List.getElem_mem _)).1
                  have HD : Hid ((l.take k).drop q = (l[q]'(by omega)) :: (l.take k).drop (q + 1)) := by
                    show _ = _
                    rw [List.drop_eq_getElem_cons (by rw [List.length_take]; omega), List.getElem_take]
                  clear x0
                  generalize (l[q]'(by omega)) = gg at cl4 sg HD
                  have C := Lib.hid (refIsIn_any f.path gg.path wr.drew (by have := sz.1; omega) (by omega))
                  have hqk1 : decide (q < k) = true := decide_eq_true hqt
                  have hql : (q : Int) < (l.length : Int) := by omega
                  have hkl2 : (k : Int) < (l.length : Int) := by omega
                  go_wp2_with fail
                  go_region_held3 (fun W : World => W.cell? ⟨b, off + k * 3, none⟩ = some (.string f.path) ∧ W.cell? ⟨b, off + q * 3, none⟩ = some (.string gg.path)) (first | exact ⟨y1, y4⟩ | exact ⟨cl1, cl4⟩)
                    (first
                      | (go_at_call 229; refine C.out.mono ?_; rintro e w4 ⟨rfl, hb4⟩; have y1 := (hb4.cell (p := ⟨b, off + k * 3, none⟩) (World.block_lt_of_cell? _ _ cl1)).trans cl1; have y4 := (hb4.cell (p := ⟨b, off + q * 3, none⟩) (World.block_lt_of_cell? _ _ cl4)).trans cl4))
                  have hb5 : Below B wg w4 := (hbq.trans (below_drewN _ _ 1)).trans (hb4.mono (Nat.le_trans hBw hbq.size))
                  have HO3 : Hid (FSt (l.take k) f (if inB (bl f.path) (bl gg.path) = true then 11 else 0) (q + 1)) := by
                    show FSt _ _ _ _
                    unfold FSt
                    rw [HO2.out, HD.out, List.any_cons]
                    by_cases h : inB (bl f.path) (bl gg.path) = true
                    · rw [h]; exact .inr ⟨by simp, by simp⟩
                    · rw [Bool.not_eq_true] at h
                      rw [h]; exact .inl ⟨rfl, by simp⟩
                  clear C hqk1 hql hkl2 HO2 HD cl1 cl2 cl4 y1 y4 hb4
                  cases hin : inB (bl f.path) (bl gg.path) with
                  | true =>
                    rw [hin, if_pos rfl] at HO3
                    clear hin
                    go_wp2_with fail
                    go_roundw
                    case rel => exact ⟨q + 1, 11, by omega, by go_num, rfl, HO3, hb5⟩
                    case measure => simp [intOf]; omega
                  | false =>
                    rw [hin, if_neg (by simp)] at HO3
                    clear hin
                    go_wp2_with fail
                    go_roundw
                    case rel => exact ⟨q + 1, 0, by omega, by go_num, rfl, HO3, hb5⟩
                    case measure => simp [intOf]; omega
                · obtain rfl : q = k := by omega
                  have h0 : fileE (l.take q) f = 0 := by rw [HO2.out, List.drop_of_length_le (by rw [List.length_take]; omega)]; rfl
                  have HF2 : Hid (filesE [] 0 l = filesE (l.take (q + 1)) (q + 1) (l.drop (q + 1))) := by
                    show _ = _
                    rw [HF.out, HST.out, if_pos h0]
                  have HAL : Hid (allText (l.take (q + 1)) = allText (l.take q) + f.text.size) := by show _ = _; rw [HTK.out, allText_snoc]
                  have hqq : decide (q < q) = false := decide_eq_false (by omega)
                  have hts : f.text.size ≤ 100000 := sz.2
                  clear h0 HO2 HF HST HTK
                  go_wp2_with fail
                  go_roundw
                  case rel => exact ⟨q + 1, by omega, by go_num, by rw [HAL.out]; go_num, by rw [HAL.out]; omega, HF2, hbq⟩
                  case measure => simp [intOf]; omega
              · have hec1 : 0 < ec := Nat.pos_of_ne_zero hec
                have HO2 : Hid (fileE (l.take k) f = ec) := by
                  rcases HO.out with h | h
                  · exact absurd h.1 hec
                  · exact h.2
                obtain ⟨ec', rfl⟩ : ∃ ec', ec = ec' + 1 := ⟨ec - 1, by omega⟩
                have HY := Lib.hid (HAT.out ec' HO2.out)
                have he0 : (((ec' : Int) + 1) == 0) = false := by simpa using (by omega : (ec' : Int) + 1 ≠ 0)
                have hg0 : wr.heap[g]? = some (.cells #[.int .i64 0, .int .i64 0] 38 (0, 0)) := (hbq.block g hgB).trans HGB.out
                have f0 : wr.frozen? ⟨g, 0, none⟩ = false := Lib.frozen_of_heap hg0 0
                have f1 : wr.frozen? ⟨g, 1, none⟩ = false := Lib.frozen_of_heap hg0 1
                have e0 : wr.cell? ⟨g, 0, none⟩ = some (.int .i64 0) := by rw [Lib.cell_of_heap hg0]; rfl
                have e1 : wr.cell? ⟨g, 1, none⟩ = some (.int .i64 0) := by rw [Lib.cell_of_heap hg0]; rfl
                obtain ⟨s0, s1, s2⟩ := fault_store hg0 (.int .i64 ((ec' : Int) + 1)) (.int .i64 k) hgw
                have S0 := Lib.hid s0
                have S1 := Lib.hid s1
                have S2 := Lib.hid s2
                clear hg0 s0 s1 s2 HO HO2 hec
                go_wp2_with fail
                all_goals exact bodyPost_ret (v := .agg #[.int .i64 ((ec' : Int) + 1), .int .i64 k]) (by simp [results, Tryz.results180, go_sem, S0.out, S1.out]) rfl ⟨by rw [HY.out]; rfl, hbwq.trans S2.out⟩
          · have hmt : decide ((4000 : Int) < (f.text.size : Int)) = false := decide_eq_false (by omega)
            by_cases hk0 : k = 0
            · have HEN : Hid (FSt (l.take k) f 0 0) := .inl ⟨rfl, by unfold fileE; rw [if_neg (by rw [HC.out]; simp), if_neg ht, if_neg (by rw [hk0]; simp [afterB])]; rfl⟩
              have hd0 : decide (0 < k) = false := decide_eq_false (by omega)
              have hkz : k ≤ 0 := by omega
              clear hk0
              go_wp2_with fail
              go_loopw [5, 6, 7] (fun ev ki _ wq => ∃ (q : Nat) (ec : Nat), q ≤ k ∧ ki = .int .i64 q ∧ ev = .int .i64 ec ∧ Hid (FSt (l.take k) f ec q) ∧ Below B wg wq) (fun _ i _ _ => k + 1 - (intOf i).toNat)
              case atStart => exact ⟨0, 0, Nat.zero_le _, rfl, rfl, HEN, hb1⟩
              case round =>
                obtain ⟨q, ec, hq, rfl, rfl, HO, hbq⟩ := hrel
                have hbwq : Below w.heap.size w wr := HBW.out.trans (hbq.mono hwB)
                have cl1 := (hbwq.cell (p := ⟨b, off + k * 3, none⟩) hbl).trans d0
                have cl2 := (hbwq.cell (p := ⟨b, off + k * 3 + 2, none⟩) hbl).trans d2
                by_cases hec : ec = 0
                · subst hec
                  have HO2 : Hid (fileE (l.take k) f = if ((l.take k).drop q).any (fun g => inB (bl f.path) (bl g.path)) = true then 11 else 0) := by
                    rcases HO.out with h | h
                    · exact h.2
                    · exact absurd rfl h.1
                  clear HO
                  by_cases hqt : q < k
                  · obtain ⟨x0, _, _⟩ := HCE.out q (by omega)
                    have cl4 := (hbwq.cell (p := ⟨b, off + q * 3, none⟩) hbl).trans x0
                    have sg := (HSM.out (l[q]'(by omega)) (List.getElem_mem _)).1
                    have HD : Hid ((l.take k).drop q = (l[q]'(by omega)) :: (l.take k).drop (q + 1)) := by
                      show _ = _
                      rw [List.drop_eq_getElem_cons (by rw [List.length_take]; omega), List.getElem_take]
                    clear x0
                    generalize (l[q]'(by omega)) = gg at cl4 sg HD
                    have C := Lib.hid (refIsIn_any f.path gg.path wr.drew (by have := sz.1; omega) (by omega))
                    have hqk1 : decide (q < k) = true := decide_eq_true hqt
                    have hql : (q : Int) < (l.length : Int) := by omega
                    have hkl2 : (k : Int) < (l.length : Int) := by omega
                    go_wp2_with fail
                    go_region_held3 (fun W : World => W.cell? ⟨b, off + k * 3, none⟩ = some (.string f.path) ∧ W.cell? ⟨b, off + q * 3, none⟩ = some (.string gg.path)) (first | exact ⟨y1, y4⟩ | exact ⟨cl1, cl4⟩)
                      (first
                        | (go_at_call 229; refine C.out.mono ?_; rintro e w4 ⟨rfl, hb4⟩; have y1 := (hb4.cell (p := ⟨b, off + k * 3, none⟩) (World.block_lt_of_cell? _ _ cl1)).trans cl1; have y4 := (hb4.cell (p := ⟨b, off + q * 3, none⟩) (World.block_lt_of_cell? _ _ cl4)).trans cl4))
                    have hb5 : Below B wg w4 := (hbq.trans (below_drewN _ _ 1)).trans (hb4.mono (Nat.le_trans hBw hbq.size))
                    have HO3 : Hid (FSt (l.take k) f (if inB (bl f.path) (bl gg.path) = true then 11 else 0) (q + 1)) := by
                      show FSt _ _ _ _
                      unfold FSt
                      rw [HO2.out, HD.out, List.any_cons]
                      by_cases h : inB (bl f.path) (bl gg.path) = true
                      · rw [h]; exact .inr ⟨by simp, by simp⟩
                      · rw [Bool.not_eq_true] at h
                        rw [h]; exact .inl ⟨rfl, by simp⟩
                    clear C hqk1 hql hkl2 HO2 HD cl1 cl2 cl4 y1 y4 hb4
                    cases hin : inB (bl f.path) (bl gg.path) with
                    | true =>
                      rw [hin, if_pos rfl] at HO3
                      clear hin
                      go_wp2_with fail
                      go_roundw
                      case rel => exact ⟨q + 1, 11, by omega, by go_num, rfl, HO3, hb5⟩
                      case measure => simp [intOf]; omega
                    | false =>
                      rw [hin, if_neg (by simp)] at HO3
                      clear hin
                      go_wp2_with fail
                      go_roundw
                      case rel => exact ⟨q + 1, 0, by omega, by go_num, rfl, HO3, hb5⟩
                      case measure => simp [intOf]; omega
                  · obtain rfl : q = k := by omega
                    have h0 : fileE (l.take q) f = 0 := by rw [HO2.out, List.drop_of_length_le (by rw [List.length_take]; omega)]; rfl
                    have HF2 : Hid (filesE [] 0 l = filesE (l.take (q + 1)) (q + 1) (l.drop (q + 1))) := by
                      show _ = _
                      rw [HF.out, HST.out, if_pos h0]
                    have HAL : Hid (allText (l.take (q + 1)) = allText (l.take q) + f.text.size) := by show _ = _; rw [HTK.out, allText_snoc]
                    have hqq : decide (q < q) = false := decide_eq_false (by omega)
                    have hts : f.text.size ≤ 100000 := sz.2
                    clear h0 HO2 HF HST HTK
                    go_wp2_with fail
                    go_roundw
                    case rel => exact ⟨q + 1, by omega, by go_num, by rw [HAL.out]; go_num, by rw [HAL.out]; omega, HF2, hbq⟩
                    case measure => simp [intOf]; omega
                · have hec1 : 0 < ec := Nat.pos_of_ne_zero hec
                  have HO2 : Hid (fileE (l.take k) f = ec) := by
                    rcases HO.out with h | h
                    · exact absurd h.1 hec
                    · exact h.2
                  obtain ⟨ec', rfl⟩ : ∃ ec', ec = ec' + 1 := ⟨ec - 1, by omega⟩
                  have HY := Lib.hid (HAT.out ec' HO2.out)
                  have he0 : (((ec' : Int) + 1) == 0) = false := by simpa using (by omega : (ec' : Int) + 1 ≠ 0)
                  have hg0 : wr.heap[g]? = some (.cells #[.int .i64 0, .int .i64 0] 38 (0, 0)) := (hbq.block g hgB).trans HGB.out
                  have f0 : wr.frozen? ⟨g, 0, none⟩ = false := Lib.frozen_of_heap hg0 0
                  have f1 : wr.frozen? ⟨g, 1, none⟩ = false := Lib.frozen_of_heap hg0 1
                  have e0 : wr.cell? ⟨g, 0, none⟩ = some (.int .i64 0) := by rw [Lib.cell_of_heap hg0]; rfl
                  have e1 : wr.cell? ⟨g, 1, none⟩ = some (.int .i64 0) := by rw [Lib.cell_of_heap hg0]; rfl
                  obtain ⟨s0, s1, s2⟩ := fault_store hg0 (.int .i64 ((ec' : Int) + 1)) (.int .i64 k) hgw
                  have S0 := Lib.hid s0
                  have S1 := Lib.hid s1
                  have S2 := Lib.hid s2
                  clear hg0 s0 s1 s2 HO HO2 hec
                  go_wp2_with fail
                  all_goals exact bodyPost_ret (v := .agg #[.int .i64 ((ec' : Int) + 1), .int .i64 k]) (by simp [results, Tryz.results180, go_sem, S0.out, S1.out]) rfl ⟨by rw [HY.out]; rfl, hbwq.trans S2.out⟩
            · have hlast := take_last (l := l) (k := k) (by omega) hk
              have hq := (HCE.out (k - 1) (by omega)).1
              have p0 := (hbw1.cell (p := ⟨b, off + (k - 1) * 3, none⟩) hbl).trans hq
              obtain ⟨gl, hgl⟩ : ∃ g, l[k - 1]'(by omega) = g := ⟨_, rfl⟩
              rw [hgl] at hlast p0
              clear hq hgl
              have hwr : IntKind.i64.wrap ((k : Int) - 1) = ((k - 1 : Nat) : Int) := by rw [IntWalk.i64_in _ (by omega)]; omega
              have hd0 : decide (0 < k) = true := decide_eq_true (by omega)
              have hkl : ((k - 1 : Nat) : Int) < (l.length : Int) := by omega
              have hkl2 : (k : Int) < (l.length : Int) := by omega
              go_wp2_with fail
              go_quiet (fail)
              clear hwr hkl hkl2 p0
              obtain ⟨lq, hlq⟩ : ∃ lq, (Op.bytesLess f.path.toList gl.path.toList || f.path.toList == gl.path.toList) = lq := ⟨_, rfl⟩
              rw [hlq]
              have HL : Hid (afterB (l.take k) (bl f.path) = lq) := by
                show _ = _
                rw [afterB_some hlast, ← hlq]
                unfold leqB
                rw [toList_bl, toList_bl]
              have hb2 : Below B wg (w1.drewN nq) := hb1.trans (below_drewN _ _ _)
              clear hlq hlast
              cases lq with
              | true =>
                have HEN : Hid (FSt (l.take k) f 9 0) := .inr ⟨by omega, by unfold fileE; rw [if_neg (by rw [HC.out]; simp), if_neg ht, if_pos HL.out]⟩
                go_wp2_with fail
                go_loopw [5, 6, 7] (fun ev ki _ wq => ∃ (q : Nat) (ec : Nat), q ≤ k ∧ ki = .int .i64 q ∧ ev = .int .i64 ec ∧ Hid (FSt (l.take k) f ec q) ∧ Below B wg wq) (fun _ i _ _ => k + 1 - (intOf i).toNat)
                case atStart => exact ⟨0, 9, Nat.zero_le _, rfl, rfl, HEN, hb2⟩
                case round =>
                  obtain ⟨q, ec, hq, rfl, rfl, HO, hbq⟩ := hrel
                  have hbwq : Below w.heap.size w wr := HBW.out.trans (hbq.mono hwB)
                  have cl1 := (hbwq.cell (p := ⟨b, off + k * 3, none⟩) hbl).trans d0
                  have cl2 := (hbwq.cell (p := ⟨b, off + k * 3 + 2, none⟩) hbl).trans d2
                  by_cases hec : ec = 0
                  · subst hec
                    have HO2 : Hid (fileE (l.take k) f = if ((l.take k).drop q).any (fun g => inB (bl f.path) (bl g.path)) = true then 11 else 0) := by
                      rcases HO.out with h | h
                      · exact h.2
                      · exact absurd rfl h.1
                    clear HO
                    by_cases hqt : q < k
                    · obtain ⟨x0, _, _⟩ := HCE.out q (by omega)
                      have cl4 := (hbwq.cell (p := ⟨b, off + q * 3, none⟩) hbl).trans x0
                      have sg := (HSM.out (l[q]'(by omega)) (List.getElem_mem _)).1
                      have HD : Hid ((l.take k).drop q = (l[q]'(by omega)) :: (l.take k).drop (q + 1)) := by
                        show _ = _
                        rw [List.drop_eq_getElem_cons (by rw [List.length_take]; omega), List.getElem_take]
                      clear x0
                      generalize (l[q]'(by omega)) = gg at cl4 sg HD
                      have C := Lib.hid (refIsIn_any f.path gg.path wr.drew (by have := sz.1; omega) (by omega))
                      have hqk1 : decide (q < k) = true := decide_eq_true hqt
                      have hql : (q : Int) < (l.length : Int) := by omega
                      have hkl2 : (k : Int) < (l.length : Int) := by omega
                      go_wp2_with fail
                      go_region_held3 (fun W : World => W.cell? ⟨b, off + k * 3, none⟩ = some (.string f.path) ∧ W.cell? ⟨b, off + q * 3, none⟩ = some (.string gg.path)) (first | exact ⟨y1, y4⟩ | exact ⟨cl1, cl4⟩)
                        (first
                          | (go_at_call 229; refine C.out.mono ?_; rintro e w4 ⟨rfl, hb4⟩; have y1 := (hb4.cell (p := ⟨b, off + k * 3, none⟩) (World.block_lt_of_cell? _ _ cl1)).trans cl1; have y4 := (hb4.cell (p := ⟨b, off + q * 3, none⟩) (World.block_lt_of_cell? _ _ cl4)).trans cl4))
                      have hb5 : Below B wg w4 := (hbq.trans (below_drewN _ _ 1)).trans (hb4.mono (Nat.le_trans hBw hbq.size))
                      have HO3 : Hid (FSt (l.take k) f (if inB (bl f.path) (bl gg.path) = true then 11 else 0) (q + 1)) := by
                        show FSt _ _ _ _
                        unfold FSt
                        rw [HO2.out, HD.out, List.any_cons]
                        by_cases h : inB (bl f.path) (bl gg.path) = true
                        · rw [h]; exact .inr ⟨by simp, by simp⟩
                        · rw [Bool.not_eq_true] at h
                          rw [h]; exact .inl ⟨rfl, by simp⟩
                      clear C hqk1 hql hkl2 HO2 HD cl1 cl2 cl4 y1 y4 hb4
                      cases hin : inB (bl f.path) (bl gg.path) with
                      | true =>
                        rw [hin, if_pos rfl] at HO3
                        clear hin
                        go_wp2_with fail
                        go_roundw
                        case rel => exact ⟨q + 1, 11, by omega, by go_num, rfl, HO3, hb5⟩
                        case measure => simp [intOf]; omega
                      | false =>
                        rw [hin, if_neg (by simp)] at HO3
                        clear hin
                        go_wp2_with fail
                        go_roundw
                        case rel => exact ⟨q + 1, 0, by omega, by go_num, rfl, HO3, hb5⟩
                        case measure => simp [intOf]; omega
                    · obtain rfl : q = k := by omega
                      have h0 : fileE (l.take q) f = 0 := by rw [HO2.out, List.drop_of_length_le (by rw [List.length_take]; omega)]; rfl
                      have HF2 : Hid (filesE [] 0 l = filesE (l.take (q + 1)) (q + 1) (l.drop (q + 1))) := by
                        show _ = _
                        rw [HF.out, HST.out, if_pos h0]
                      have HAL : Hid (allText (l.take (q + 1)) = allText (l.take q) + f.text.size) := by show _ = _; rw [HTK.out, allText_snoc]
                      have hqq : decide (q < q) = false := decide_eq_false (by omega)
                      have hts : f.text.size ≤ 100000 := sz.2
                      clear h0 HO2 HF HST HTK
                      go_wp2_with fail
                      go_roundw
                      case rel => exact ⟨q + 1, by omega, by go_num, by rw [HAL.out]; go_num, by rw [HAL.out]; omega, HF2, hbq⟩
                      case measure => simp [intOf]; omega
                  · have hec1 : 0 < ec := Nat.pos_of_ne_zero hec
                    have HO2 : Hid (fileE (l.take k) f = ec) := by
                      rcases HO.out with h | h
                      · exact absurd h.1 hec
                      · exact h.2
                    obtain ⟨ec', rfl⟩ : ∃ ec', ec = ec' + 1 := ⟨ec - 1, by omega⟩
                    have HY := Lib.hid (HAT.out ec' HO2.out)
                    have he0 : (((ec' : Int) + 1) == 0) = false := by simpa using (by omega : (ec' : Int) + 1 ≠ 0)
                    have hg0 : wr.heap[g]? = some (.cells #[.int .i64 0, .int .i64 0] 38 (0, 0)) := (hbq.block g hgB).trans HGB.out
                    have f0 : wr.frozen? ⟨g, 0, none⟩ = false := Lib.frozen_of_heap hg0 0
                    have f1 : wr.frozen? ⟨g, 1, none⟩ = false := Lib.frozen_of_heap hg0 1
                    have e0 : wr.cell? ⟨g, 0, none⟩ = some (.int .i64 0) := by rw [Lib.cell_of_heap hg0]; rfl
                    have e1 : wr.cell? ⟨g, 1, none⟩ = some (.int .i64 0) := by rw [Lib.cell_of_heap hg0]; rfl
                    obtain ⟨s0, s1, s2⟩ := fault_store hg0 (.int .i64 ((ec' : Int) + 1)) (.int .i64 k) hgw
                    have S0 := Lib.hid s0
                    have S1 := Lib.hid s1
                    have S2 := Lib.hid s2
                    clear hg0 s0 s1 s2 HO HO2 hec
                    go_wp2_with fail
                    all_goals exact bodyPost_ret (v := .agg #[.int .i64 ((ec' : Int) + 1), .int .i64 k]) (by simp [results, Tryz.results180, go_sem, S0.out, S1.out]) rfl ⟨by rw [HY.out]; rfl, hbwq.trans S2.out⟩
              | false =>
                have HEN : Hid (FSt (l.take k) f 0 0) := .inl ⟨rfl, by unfold fileE; rw [if_neg (by rw [HC.out]; simp), if_neg ht, if_neg (by rw [HL.out]; simp)]; rfl⟩
                go_wp2_with fail
                go_loopw [5, 6, 7] (fun ev ki _ wq => ∃ (q : Nat) (ec : Nat), q ≤ k ∧ ki = .int .i64 q ∧ ev = .int .i64 ec ∧ Hid (FSt (l.take k) f ec q) ∧ Below B wg wq) (fun _ i _ _ => k + 1 - (intOf i).toNat)
                case atStart => exact ⟨0, 0, Nat.zero_le _, rfl, rfl, HEN, hb2⟩
                case round =>
                  obtain ⟨q, ec, hq, rfl, rfl, HO, hbq⟩ := hrel
                  have hbwq : Below w.heap.size w wr := HBW.out.trans (hbq.mono hwB)
                  have cl1 := (hbwq.cell (p := ⟨b, off + k * 3, none⟩) hbl).trans d0
                  have cl2 := (hbwq.cell (p := ⟨b, off + k * 3 + 2, none⟩) hbl).trans d2
                  by_cases hec : ec = 0
                  · subst hec
                    have HO2 : Hid (fileE (l.take k) f = if ((l.take k).drop q).any (fun g => inB (bl f.path) (bl g.path)) = true then 11 else 0) := by
                      rcases HO.out with h | h
                      · exact h.2
                      · exact absurd rfl h.1
                    clear HO
                    by_cases hqt : q < k
                    · obtain ⟨x0, _, _⟩ := HCE.out q (by omega)
                      have cl4 := (hbwq.cell (p := ⟨b, off + q * 3, none⟩) hbl).trans x0
                      have sg := (HSM.out (l[q]'(by omega)) (List.getElem_mem _)).1
                      have HD : Hid ((l.take k).drop q = (l[q]'(by omega)) :: (l.take k).drop (q + 1)) := by
                        show _ = _
                        rw [List.drop_eq_getElem_cons (by rw [List.length_take]; omega), List.getElem_take]
                      clear x0
                      generalize (l[q]'(by omega)) = gg at cl4 sg HD
                      have C := Lib.hid (refIsIn_any f.path gg.path wr.drew (by have := sz.1; omega) (by omega))
                      have hqk1 : decide (q < k) = true := decide_eq_true hqt
                      have hql : (q : Int) < (l.length : Int) := by omega
                      have hkl2 : (k : Int) < (l.length : Int) := by omega
                      go_wp2_with fail
                      go_region_held3 (fun W : World => W.cell? ⟨b, off + k * 3, none⟩ = some (.string f.path) ∧ W.cell? ⟨b, off + q * 3, none⟩ = some (.string gg.path)) (first | exact ⟨y1, y4⟩ | exact ⟨cl1, cl4⟩)
                        (first
                          | (go_at_call 229; refine C.out.mono ?_; rintro e w4 ⟨rfl, hb4⟩; have y1 := (hb4.cell (p := ⟨b, off + k * 3, none⟩) (World.block_lt_of_cell? _ _ cl1)).trans cl1; have y4 := (hb4.cell (p := ⟨b, off + q * 3, none⟩) (World.block_lt_of_cell? _ _ cl4)).trans cl4))
                      have hb5 : Below B wg w4 := (hbq.trans (below_drewN _ _ 1)).trans (hb4.mono (Nat.le_trans hBw hbq.size))
                      have HO3 : Hid (FSt (l.take k) f (if inB (bl f.path) (bl gg.path) = true then 11 else 0) (q + 1)) := by
                        show FSt _ _ _ _
                        unfold FSt
                        rw [HO2.out, HD.out, List.any_cons]
                        by_cases h : inB (bl f.path) (bl gg.path) = true
                        · rw [h]; exact .inr ⟨by simp, by simp⟩
                        · rw [Bool.not_eq_true] at h
                          rw [h]; exact .inl ⟨rfl, by simp⟩
                      clear C hqk1 hql hkl2 HO2 HD cl1 cl2 cl4 y1 y4 hb4
                      cases hin : inB (bl f.path) (bl gg.path) with
                      | true =>
                        rw [hin, if_pos rfl] at HO3
                        clear hin
                        go_wp2_with fail
                        go_roundw
                        case rel => exact ⟨q + 1, 11, by omega, by go_num, rfl, HO3, hb5⟩
                        case measure => simp [intOf]; omega
                      | false =>
                        rw [hin, if_neg (by simp)] at HO3
                        clear hin
                        go_wp2_with fail
                        go_roundw
                        case rel => exact ⟨q + 1, 0, by omega, by go_num, rfl, HO3, hb5⟩
                        case measure => simp [intOf]; omega
                    · obtain rfl : q = k := by omega
                      have h0 : fileE (l.take q) f = 0 := by rw [HO2.out, List.drop_of_length_le (by rw [List.length_take]; omega)]; rfl
                      have HF2 : Hid (filesE [] 0 l = filesE (l.take (q + 1)) (q + 1) (l.drop (q + 1))) := by
                        show _ = _
                        rw [HF.out, HST.out, if_pos h0]
                      have HAL : Hid (allText (l.take (q + 1)) = allText (l.take q) + f.text.size) := by show _ = _; rw [HTK.out, allText_snoc]
                      have hqq : decide (q < q) = false := decide_eq_false (by omega)
                      have hts : f.text.size ≤ 100000 := sz.2
                      clear h0 HO2 HF HST HTK
                      go_wp2_with fail
                      go_roundw
                      case rel => exact ⟨q + 1, by omega, by go_num, by rw [HAL.out]; go_num, by rw [HAL.out]; omega, HF2, hbq⟩
                      case measure => simp [intOf]; omega
                  · have hec1 : 0 < ec := Nat.pos_of_ne_zero hec
                    have HO2 : Hid (fileE (l.take k) f = ec) := by
                      rcases HO.out with h | h
                      · exact absurd h.1 hec
                      · exact h.2
                    obtain ⟨ec', rfl⟩ : ∃ ec', ec = ec' + 1 := ⟨ec - 1, by omega⟩
                    have HY := Lib.hid (HAT.out ec' HO2.out)
                    have he0 : (((ec' : Int) + 1) == 0) = false := by simpa using (by omega : (ec' : Int) + 1 ≠ 0)
                    have hg0 : wr.heap[g]? = some (.cells #[.int .i64 0, .int .i64 0] 38 (0, 0)) := (hbq.block g hgB).trans HGB.out
                    have f0 : wr.frozen? ⟨g, 0, none⟩ = false := Lib.frozen_of_heap hg0 0
                    have f1 : wr.frozen? ⟨g, 1, none⟩ = false := Lib.frozen_of_heap hg0 1
                    have e0 : wr.cell? ⟨g, 0, none⟩ = some (.int .i64 0) := by rw [Lib.cell_of_heap hg0]; rfl
                    have e1 : wr.cell? ⟨g, 1, none⟩ = some (.int .i64 0) := by rw [Lib.cell_of_heap hg0]; rfl
                    obtain ⟨s0, s1, s2⟩ := fault_store hg0 (.int .i64 ((ec' : Int) + 1)) (.int .i64 k) hgw
                    have S0 := Lib.hid s0
                    have S1 := Lib.hid s1
                    have S2 := Lib.hid s2
                    clear hg0 s0 s1 s2 HO HO2 hec
                    go_wp2_with fail
                    all_goals exact bodyPost_ret (v := .agg #[.int .i64 ((ec' : Int) + 1), .int .i64 k]) (by simp [results, Tryz.results180, go_sem, S0.out, S1.out]) rfl ⟨by rw [HY.out]; rfl, hbwq.trans S2.out⟩
      · obtain rfl : k = l.length := by omega
        have HT := Lib.hid (treeEr_end h30 HF.out)
        rw [List.take_length] at hall ⊢
        clear HF hbw
        by_cases hall2 : 12000 < allText l
        · have HX : Hid (treeEr l = ⟨2, none⟩) := by show _ = _; rw [HT.out, if_pos hall2]
          have C := Lib.hid (refBare_any 2 wr)
          clear HT
          go_wp2_with fail
          refine C.out.mono ?_
          clear C
          rintro e w1 ⟨rfl, hbx⟩
          have hb1 := hb.trans (hbx.mono (Nat.le_trans hBw hb.size))
          have hg0 : w1.heap[g]? = some (.cells #[.int .i64 0, .int .i64 0] 38 (0, 0)) := (hb1.block g hgB).trans HGB.out
          have f0 : w1.frozen? ⟨g, 0, none⟩ = false := Lib.frozen_of_heap hg0 0
          have f1 : w1.frozen? ⟨g, 1, none⟩ = false := Lib.frozen_of_heap hg0 1
          have e0 : w1.cell? ⟨g, 0, none⟩ = some (.int .i64 0) := by rw [Lib.cell_of_heap hg0]; rfl
          have e1 : w1.cell? ⟨g, 1, none⟩ = some (.int .i64 0) := by rw [Lib.cell_of_heap hg0]; rfl
          obtain ⟨s0, s1, s2⟩ := fault_store hg0 (.int .i64 2) (.int .i64 (-1)) hgw
          have S0 := Lib.hid s0
          have S1 := Lib.hid s1
          have S2 := Lib.hid s2
          have hbw2 : Below w.heap.size w w1 := HBW.out.trans (hb1.mono hwB)
          clear hg0 s0 s1 s2
          go_wp2_with fail
          exact bodyPost_ret (v := .agg #[.int .i64 2, .int .i64 (-1)]) (by simp [results, Tryz.results180, go_sem, S0.out, S1.out]) rfl ⟨by rw [HX.out]; rfl, hbw2.trans S2.out⟩
        · have HX : Hid (treeEr l = ⟨0, none⟩) := by show _ = _; rw [HT.out, if_neg hall2]
          have C := Lib.hid (refFine_any wr)
          clear HT
          go_wp2_with fail
          refine C.out.mono ?_
          clear C
          rintro e w1 ⟨rfl, hbx⟩
          have hb1 := hb.trans (hbx.mono (Nat.le_trans hBw hb.size))
          have hg0 : w1.heap[g]? = some (.cells #[.int .i64 0, .int .i64 0] 38 (0, 0)) := (hb1.block g hgB).trans HGB.out
          have f0 : w1.frozen? ⟨g, 0, none⟩ = false := Lib.frozen_of_heap hg0 0
          have f1 : w1.frozen? ⟨g, 1, none⟩ = false := Lib.frozen_of_heap hg0 1
          have e0 : w1.cell? ⟨g, 0, none⟩ = some (.int .i64 0) := by rw [Lib.cell_of_heap hg0]; rfl
          have e1 : w1.cell? ⟨g, 1, none⟩ = some (.int .i64 0) := by rw [Lib.cell_of_heap hg0]; rfl
          obtain ⟨s0, s1, s2⟩ := fault_store hg0 (.int .i64 0) (.int .i64 (-1)) hgw
          have S0 := Lib.hid s0
          have S1 := Lib.hid s1
          have S2 := Lib.hid s2
          have hbw2 : Below w.heap.size w w1 := HBW.out.trans (hb1.mono hwB)
          clear hg0 s0 s1 s2
          go_wp2_with fail
          exact bodyPost_ret (v := .agg #[.int .i64 0, .int .i64 (-1)]) (by simp [results, Tryz.results180, go_sem, S0.out, S1.out]) rfl ⟨by rw [HX.out]; rfl, hbw2.trans S2.out⟩
  · have HX : Hid (treeEr l = ⟨8, none⟩) := by show _ = _; unfold treeEr; rw [if_pos (by omega)]
    have C := Lib.hid (refBare_any 8 wg)
    have hm30 : decide ((30 : Int) < (l.length : Int)) = true := decide_eq_true (by omega)
    go_wp2_with fail
    rw [HWA.out, HPA.out]
    refine C.out.mono ?_
    clear C
    rintro e w1 ⟨rfl, hbx⟩
    have hb1 : Below B wg w1 := hbx.mono hBw
    have hg0 : w1.heap[g]? = some (.cells #[.int .i64 0, .int .i64 0] 38 (0, 0)) := (hb1.block g hgB).trans HGB.out
    have f0 : w1.frozen? ⟨g, 0, none⟩ = false := Lib.frozen_of_heap hg0 0
    have f1 : w1.frozen? ⟨g, 1, none⟩ = false := Lib.frozen_of_heap hg0 1
    have e0 : w1.cell? ⟨g, 0, none⟩ = some (.int .i64 0) := by rw [Lib.cell_of_heap hg0]; rfl
    have e1 : w1.cell? ⟨g, 1, none⟩ = some (.int .i64 0) := by rw [Lib.cell_of_heap hg0]; rfl
    obtain ⟨s0, s1, s2⟩ := fault_store hg0 (.int .i64 8) (.int .i64 (-1)) hgw
    have S0 := Lib.hid s0
    have S1 := Lib.hid s1
    have S2 := Lib.hid s2
    have hbw2 : Below w.heap.size w w1 := HBW.out.trans (hb1.mono hwB)
    clear hg0 s0 s1 s2
    go_wp2_with fail
    exact bodyPost_ret (v := .agg #[.int .i64 8, .int .i64 (-1)]) (by simp [results, Tryz.results180, go_sem, S0.out, S1.out]) rfl ⟨by rw [HX.out]; rfl, hbw2.trans S2.out⟩
end Go.Proofs.YtcjjbpoaojjojaaGreatDoor
