/- The reference's RulesFault: the contract. The reference's WaysOf: the contract. -/
import Derived.Test.YtomceddfbfpjjaaGreatDoorKTold
import Derived.Test.YtomceddfbfpjjaaGreatDoorKMirrorUp
import Derived.Test.YtomceddfbfpjjaaGreatDoorKRefLinkUp
import Derived.Test.YtomceddfbfpjjaaGreatDoorKRefPathed
import Derived.Deep.RegionHeld3
namespace Go.Proofs.YtomceddfbfpjjaaGreatDoor
open Go Go.RowKit


/-- Between a rule's texts: no error yet, or the rule's. -/
def OneSt (ec : Nat) (f : ByteArray) (ts : List ByteArray) (q : Nat) : Prop := (ec = 0 ∧ oneE (ruleOf (f, ts)) = firstE ((ts.map bl).drop q)) ∨ (ec ≠ 0 ∧ oneE (ruleOf (f, ts)) = ec)
/-- What RulesFault hands back. -/
def RFPost (l : List RuleB) (w : World) (e : Ending) (w' : World) : Prop := e = .returned (.agg (erA (rulesEr (l.map ruleOf)))) ∧ Below w.heap.size w w'

set_option maxHeartbeats 2000000 in
set_option maxRecDepth 100000 in
theorem refRulesFault_any (v : Value) (l : List RuleB) (w : World) (hl : l.length ≤ 1000) (hs : ∀ r ∈ l, Small r) (hv : RulesRow w v l) :
    Calls Tryz.prog 70 #[v] w (RFPost l w) := by
  obtain ⟨ao, cap, rfl, h1, h2, H3⟩ := hv
  have HM := Lib.hid H3
  have HS := Lib.hid hs
  clear H3 hs
  obtain ⟨g, hg⟩ : ∃ g, w.heap.size = g := ⟨_, rfl⟩
  obtain ⟨wg, hwg⟩ : ∃ wg, w.alloc (.cells #[.int .i64 0, .int .i64 0] 50) = wg := ⟨_, rfl⟩
  have hal : Below w.heap.size w wg := by rw [← hwg]; exact (Below.refl _ _).alloc (Nat.le_refl _) _
  have hA : wg.heap[g]? = some (.cells #[.int .i64 0, .int .i64 0] 50 (0, 0)) := by rw [← hwg, ← hg]; exact heap_alloc_new _ _
  have HGB := Lib.hid hA
  have hgl : g < wg.heap.size := (Array.getElem?_eq_some_iff.1 hA).1
  obtain ⟨B, hB⟩ : ∃ B, wg.heap.size = B := ⟨_, rfl⟩
  have hBw : B ≤ wg.heap.size := Nat.le_of_eq hB.symm
  have hwB : w.heap.size ≤ B := by rw [← hB]; exact hal.size
  have hgB : g < B := by rw [← hB]; exact hgl
  have hgw : w.heap.size ≤ g := Nat.le_of_eq hg
  have HBW := Lib.hid hal
  have HWG := Lib.hid (fun (b o : Nat) (hb : b < w.heap.size) => hal.cell (p := ⟨b, o, none⟩) hb)
  have HWA := Lib.hid hwg
  have HPA := Lib.hid hg
  clear hal hA hB hwg hg hgl
  go_enter Tryz.func70, Tryz.ntmps70
  by_cases h10 : l.length ≤ 10
  · have HXN : Hid (badAt 0 (l.map ruleOf) = none → rulesEr (l.map ruleOf) = ⟨0, none⟩) := fun h => by unfold rulesEr; rw [if_neg (by rw [List.length_map]; omega), h]
    have HXS : Hid (∀ p, badAt 0 (l.map ruleOf) = some p → rulesEr (l.map ruleOf) = ⟨p.2, some (p.1 : Int)⟩) := fun p h => by unfold rulesEr; rw [if_neg (by rw [List.length_map]; omega), h]
    have hm10 : decide (10 < l.length) = false := decide_eq_false (by omega)
    go_wp2_with fail
    rw [HWA.out, HPA.out]
    go_loopw [3] (fun i wr => ∃ k : Nat, k ≤ l.length ∧ i = .int .i64 k ∧ Hid (badAt 0 (l.map ruleOf) = badAt k ((l.map ruleOf).drop k)) ∧ Below B wg wr) (fun i _ => l.length - (intOf i).toNat)
    case atStart => exact ⟨0, Nat.zero_le _, rfl, rfl, Below.refl _ _⟩
    case round =>
      obtain ⟨k, hk, rfl, HF, hb⟩ := hrel
      by_cases hlt : k < l.length
      · obtain ⟨b, off, rfl, hbl, hcell⟩ := HM.out k hlt
        obtain ⟨d1, tv, d2, d3⟩ := hcell k hlt
        have hblB : b < B := Nat.lt_of_lt_of_le hbl hwB
        have d1 := (HWG.out b (off + k * 2) hbl).trans d1
        have d2 := (HWG.out b (off + k * 2 + 1) hbl).trans d2
        have cl1 := (hb.cell (p := ⟨b, off + k * 2, none⟩) hblB).trans d1
        have cl2 := (hb.cell (p := ⟨b, off + k * 2 + 1, none⟩) hblB).trans d2
        have HZ := Lib.hid (HS.out l[k] (List.getElem_mem hlt))
        have HDR := Lib.hid (drop_rule l k hlt)
        clear hcell
        generalize l[k] = r at cl1 d1 d3 HZ HDR
        obtain ⟨f, ts⟩ := r
        simp only at cl1 d1
        obtain ⟨ao2, cap2, rfl, g1, g2, G3⟩ := d3.parts
        have HG := Lib.hid G3
        have hfz : f.size ≤ 120 := HZ.out.1
        have htz : ts.length ≤ 10 := HZ.out.2.1
        clear G3 d3
        have C := Lib.hid (refBeginError_any f wr (by omega))
        go_wp2_with fail
        refine C.out.mono ?_
        clear C
        rintro e w1 ⟨rfl, hbx⟩
        have hb1 := hb.trans (hbx.mono (Nat.le_trans hBw hb.size))
        have cl3 := (hb1.cell (p := ⟨b, off + k * 2 + 1, none⟩) hblB).trans d2
        clear cl1 cl2 hbx hb
        have hle := beginE_le (bl f)
        obtain ⟨c, hc⟩ : ∃ c, beginE (bl f) = c := ⟨_, rfl⟩
        rw [hc] at hle ⊢
        have HC := Lib.hid hc
        clear hc
        cases c with
        | succ c =>
          have HEN : Hid (OneSt (c + 1) f ts 0) := .inr ⟨by omega, by unfold oneE; rw [show (ruleOf (f, ts)).1 = bl f from rfl, HC.out, if_neg (by omega)]⟩
          go_wp2_with fail
          go_loopw [4, 5] (fun ev ki wq => ∃ (q : Nat) (ec : Nat), q ≤ ts.length ∧ ki = .int .i64 q ∧ ev = .int .i64 ec ∧ Hid (OneSt ec f ts q) ∧ Below B wg wq) (fun _ i _ => ts.length + 1 - (intOf i).toNat)
          case atStart => exact ⟨0, c + 1, Nat.zero_le _, rfl, rfl, HEN, hb1⟩
          case round =>
            obtain ⟨q, ec, hq, rfl, rfl, HO, hbq⟩ := hrel
            have cl1 := (hbq.cell (p := ⟨b, off + k * 2, none⟩) hblB).trans d1
            have cl2 := (hbq.cell (p := ⟨b, off + k * 2 + 1, none⟩) hblB).trans d2
            by_cases hec : ec = 0
            · subst hec
              have HO2 : Hid (oneE (ruleOf (f, ts)) = firstE ((ts.map bl).drop q)) := by
                rcases HO.out with h | h
                · exact h.2
                · exact absurd rfl h.1
              clear HO
              by_cases hqt : q < ts.length
              · obtain ⟨b2, off2, rfl, hbl2, hcell2⟩ := HG.out q hqt
                have cl4 := (hbq.cell (p := ⟨b2, off2 + q, none⟩) (Nat.lt_of_lt_of_le hbl2 hwB)).trans ((HWG.out b2 (off2 + q) hbl2).trans (hcell2 q hqt))
                have sz := HZ.out.2.2 ts[q] (List.getElem_mem hqt)
                have HD := Lib.hid (drop_bl ts q hqt)
                clear hcell2
                generalize ts[q] = t at cl4 sz HD
                have C := Lib.hid (refBeginError_any t wr (by omega))
                go_wp2_with fail
                refine C.out.mono ?_
                clear C
                rintro e w4 ⟨rfl, hb4⟩
                have hb5 := hbq.trans (hb4.mono (Nat.le_trans hBw hbq.size))
                have HO3 : Hid (OneSt (beginE (bl t)) f ts (q + 1)) := by
                  show OneSt _ _ _ _
                  unfold OneSt
                  rw [HO2.out, HD.out, firstE]
                  by_cases h : beginE (bl t) = 0
                  · exact .inl ⟨h, by rw [if_pos h]⟩
                  · exact .inr ⟨h, by rw [if_neg h]⟩
                generalize beginE (bl t) = ec2 at HO3
                clear HO2 HD cl1 cl2 cl4
                go_wp2_with fail
                go_roundw
                case rel => exact ⟨q + 1, ec2, by omega, by go_num, rfl, HO3, hb5⟩
                case measure => simp [intOf]; omega
              · obtain rfl : q = ts.length := by omega
                have h0 : oneE (ruleOf (f, ts)) = 0 := by rw [HO2.out, drop_end]; rfl
                have HY : Hid (badAt 0 (l.map ruleOf) = badAt (k + 1) ((l.map ruleOf).drop (k + 1))) := by
                  show _ = _
                  rw [HF.out, HDR.out, badAt, if_pos h0]
                clear h0 HO2
                go_wp2_with fail
                go_roundw
                case rel => exact ⟨k + 1, by omega, by go_num, HY, hbq⟩
                case measure => simp [intOf]; omega
            · have hec1 : 0 < ec := Nat.pos_of_ne_zero hec
              have HO2 : Hid (oneE (ruleOf (f, ts)) = ec) := by
                rcases HO.out with h | h
                · exact absurd h.1 hec
                · exact h.2
              have HY : Hid (rulesEr (l.map ruleOf) = ⟨ec, some (k : Int)⟩) := by
                show _ = _
                exact HXS.out (k, ec) (by rw [HF.out, HDR.out, badAt, if_neg (by rw [HO2.out]; exact hec), HO2.out])
              have he0 : ((ec : Int) == 0) = false := by simpa using hec
              have hg0 : wr.heap[g]? = some (.cells #[.int .i64 0, .int .i64 0] 50 (0, 0)) := (hbq.block g (by omega)).trans HGB.out
              have f0 : wr.frozen? ⟨g, 0, none⟩ = false := Lib.frozen_of_heap hg0 0
              have f1 : wr.frozen? ⟨g, 1, none⟩ = false := Lib.frozen_of_heap hg0 1
              have e0 : wr.cell? ⟨g, 0, none⟩ = some (.int .i64 0) := by rw [Lib.cell_of_heap hg0]; rfl
              have e1 : wr.cell? ⟨g, 1, none⟩ = some (.int .i64 0) := by rw [Lib.cell_of_heap hg0]; rfl
              obtain ⟨s0, s1, s2⟩ := fault_store hg0 (.int .i64 ec) (.int .i64 k) hgw
              have S0 := Lib.hid s0
              have S1 := Lib.hid s1
              have S2 := Lib.hid s2
              have hbw2 : Below w.heap.size w wr := HBW.out.trans (hbq.mono hwB)
              clear hg0 s0 s1 s2 HO HO2
              go_wp2_with fail
              all_goals exact bodyPost_ret (v := .agg #[.int .i64 ec, .int .i64 k]) (by simp [results, Tryz.results70, go_sem, S0.out, S1.out]) rfl ⟨by rw [HY.out]; rfl, hbw2.trans S2.out⟩
        | zero =>
          by_cases h8 : ts.length ≤ 8
          · have hm8 : decide (8 < ts.length) = false := decide_eq_false (by omega)
            have HEN : Hid (OneSt 0 f ts 0) := .inl ⟨rfl, by unfold oneE; rw [show (ruleOf (f, ts)).1 = bl f from rfl, HC.out, if_pos rfl, if_neg (by show ¬ 8 < (ts.map bl).length; rw [List.length_map]; omega)]; rfl⟩
            go_wp2_with fail
            go_loopw [4, 5] (fun ev ki wq => ∃ (q : Nat) (ec : Nat), q ≤ ts.length ∧ ki = .int .i64 q ∧ ev = .int .i64 ec ∧ Hid (OneSt ec f ts q) ∧ Below B wg wq) (fun _ i _ => ts.length + 1 - (intOf i).toNat)
            case atStart => exact ⟨0, 0, Nat.zero_le _, rfl, rfl, HEN, hb1⟩
            case round =>
              obtain ⟨q, ec, hq, rfl, rfl, HO, hbq⟩ := hrel
              have cl1 := (hbq.cell (p := ⟨b, off + k * 2, none⟩) hblB).trans d1
              have cl2 := (hbq.cell (p := ⟨b, off + k * 2 + 1, none⟩) hblB).trans d2
              by_cases hec : ec = 0
              · subst hec
                have HO2 : Hid (oneE (ruleOf (f, ts)) = firstE ((ts.map bl).drop q)) := by
                  rcases HO.out with h | h
                  · exact h.2
                  · exact absurd rfl h.1
                clear HO
                by_cases hqt : q < ts.length
                · obtain ⟨b2, off2, rfl, hbl2, hcell2⟩ := HG.out q hqt
                  have cl4 := (hbq.cell (p := ⟨b2, off2 + q, none⟩) (Nat.lt_of_lt_of_le hbl2 hwB)).trans ((HWG.out b2 (off2 + q) hbl2).trans (hcell2 q hqt))
                  have sz := HZ.out.2.2 ts[q] (List.getElem_mem hqt)
                  have HD := Lib.hid (drop_bl ts q hqt)
                  clear hcell2
                  generalize ts[q] = t at cl4 sz HD
                  have C := Lib.hid (refBeginError_any t wr (by omega))
                  go_wp2_with fail
                  refine C.out.mono ?_
                  clear C
                  rintro e w4 ⟨rfl, hb4⟩
                  have hb5 := hbq.trans (hb4.mono (Nat.le_trans hBw hbq.size))
                  have HO3 : Hid (OneSt (beginE (bl t)) f ts (q + 1)) := by
                    show OneSt _ _ _ _
                    unfold OneSt
                    rw [HO2.out, HD.out, firstE]
                    by_cases h : beginE (bl t) = 0
                    · exact .inl ⟨h, by rw [if_pos h]⟩
                    · exact .inr ⟨h, by rw [if_neg h]⟩
                  generalize beginE (bl t) = ec2 at HO3
                  clear HO2 HD cl1 cl2 cl4
                  go_wp2_with fail
                  go_roundw
                  case rel => exact ⟨q + 1, ec2, by omega, by go_num, rfl, HO3, hb5⟩
                  case measure => simp [intOf]; omega
                · obtain rfl : q = ts.length := by omega
                  have h0 : oneE (ruleOf (f, ts)) = 0 := by rw [HO2.out, drop_end]; rfl
                  have HY : Hid (badAt 0 (l.map ruleOf) = badAt (k + 1) ((l.map ruleOf).drop (k + 1))) := by
                    show _ = _
                    rw [HF.out, HDR.out, badAt, if_pos h0]
                  clear h0 HO2
                  go_wp2_with fail
                  go_roundw
                  case rel => exact ⟨k + 1, by omega, by go_num, HY, hbq⟩
                  case measure => simp [intOf]; omega
              · have hec1 : 0 < ec := Nat.pos_of_ne_zero hec
                have HO2 : Hid (oneE (ruleOf (f, ts)) = ec) := by
                  rcases HO.out with h | h
                  · exact absurd h.1 hec
                  · exact h.2
                have HY : Hid (rulesEr (l.map ruleOf) = ⟨ec, some (k : Int)⟩) := by
                  show _ = _
                  exact HXS.out (k, ec) (by rw [HF.out, HDR.out, badAt, if_neg (by rw [HO2.out]; exact hec), HO2.out])
                have he0 : ((ec : Int) == 0) = false := by simpa using hec
                have hg0 : wr.heap[g]? = some (.cells #[.int .i64 0, .int .i64 0] 50 (0, 0)) := (hbq.block g (by omega)).trans HGB.out
                have f0 : wr.frozen? ⟨g, 0, none⟩ = false := Lib.frozen_of_heap hg0 0
                have f1 : wr.frozen? ⟨g, 1, none⟩ = false := Lib.frozen_of_heap hg0 1
                have e0 : wr.cell? ⟨g, 0, none⟩ = some (.int .i64 0) := by rw [Lib.cell_of_heap hg0]; rfl
                have e1 : wr.cell? ⟨g, 1, none⟩ = some (.int .i64 0) := by rw [Lib.cell_of_heap hg0]; rfl
                obtain ⟨s0, s1, s2⟩ := fault_store hg0 (.int .i64 ec) (.int .i64 k) hgw
                have S0 := Lib.hid s0
                have S1 := Lib.hid s1
                have S2 := Lib.hid s2
                have hbw2 : Below w.heap.size w wr := HBW.out.trans (hbq.mono hwB)
                clear hg0 s0 s1 s2 HO HO2
                go_wp2_with fail
                all_goals exact bodyPost_ret (v := .agg #[.int .i64 ec, .int .i64 k]) (by simp [results, Tryz.results70, go_sem, S0.out, S1.out]) rfl ⟨by rw [HY.out]; rfl, hbw2.trans S2.out⟩
          · have hm8 : decide ((8 : Int) < (ts.length : Int)) = true := decide_eq_true (by omega)
            have HEN : Hid (OneSt 8 f ts 0) := .inr ⟨by omega, by unfold oneE; rw [show (ruleOf (f, ts)).1 = bl f from rfl, HC.out, if_pos rfl, if_pos (by show 8 < (ts.map bl).length; rw [List.length_map]; omega)]⟩
            go_wp2_with fail
            go_loopw [4, 5] (fun ev ki wq => ∃ (q : Nat) (ec : Nat), q ≤ ts.length ∧ ki = .int .i64 q ∧ ev = .int .i64 ec ∧ Hid (OneSt ec f ts q) ∧ Below B wg wq) (fun _ i _ => ts.length + 1 - (intOf i).toNat)
            case atStart => exact ⟨0, 8, Nat.zero_le _, rfl, rfl, HEN, hb1⟩
            case round =>
              obtain ⟨q, ec, hq, rfl, rfl, HO, hbq⟩ := hrel
              have cl1 := (hbq.cell (p := ⟨b, off + k * 2, none⟩) hblB).trans d1
              have cl2 := (hbq.cell (p := ⟨b, off + k * 2 + 1, none⟩) hblB).trans d2
              by_cases hec : ec = 0
              · subst hec
                have HO2 : Hid (oneE (ruleOf (f, ts)) = firstE ((ts.map bl).drop q)) := by
                  rcases HO.out with h | h
                  · exact h.2
                  · exact absurd rfl h.1
                clear HO
                by_cases hqt : q < ts.length
                · obtain ⟨b2, off2, rfl, hbl2, hcell2⟩ := HG.out q hqt
                  have cl4 := (hbq.cell (p := ⟨b2, off2 + q, none⟩) (Nat.lt_of_lt_of_le hbl2 hwB)).trans ((HWG.out b2 (off2 + q) hbl2).trans (hcell2 q hqt))
                  have sz := HZ.out.2.2 ts[q] (List.getElem_mem hqt)
                  have HD := Lib.hid (drop_bl ts q hqt)
                  clear hcell2
                  generalize ts[q] = t at cl4 sz HD
                  have C := Lib.hid (refBeginError_any t wr (by omega))
                  go_wp2_with fail
                  refine C.out.mono ?_
                  clear C
                  rintro e w4 ⟨rfl, hb4⟩
                  have hb5 := hbq.trans (hb4.mono (Nat.le_trans hBw hbq.size))
                  have HO3 : Hid (OneSt (beginE (bl t)) f ts (q + 1)) := by
                    show OneSt _ _ _ _
                    unfold OneSt
                    rw [HO2.out, HD.out, firstE]
                    by_cases h : beginE (bl t) = 0
                    · exact .inl ⟨h, by rw [if_pos h]⟩
                    · exact .inr ⟨h, by rw [if_neg h]⟩
                  generalize beginE (bl t) = ec2 at HO3
                  clear HO2 HD cl1 cl2 cl4
                  go_wp2_with fail
                  go_roundw
                  case rel => exact ⟨q + 1, ec2, by omega, by go_num, rfl, HO3, hb5⟩
                  case measure => simp [intOf]; omega
                · obtain rfl : q = ts.length := by omega
                  have h0 : oneE (ruleOf (f, ts)) = 0 := by rw [HO2.out, drop_end]; rfl
                  have HY : Hid (badAt 0 (l.map ruleOf) = badAt (k + 1) ((l.map ruleOf).drop (k + 1))) := by
                    show _ = _
                    rw [HF.out, HDR.out, badAt, if_pos h0]
                  clear h0 HO2
                  go_wp2_with fail
                  go_roundw
                  case rel => exact ⟨k + 1, by omega, by go_num, HY, hbq⟩
                  case measure => simp [intOf]; omega
              · have hec1 : 0 < ec := Nat.pos_of_ne_zero hec
                have HO2 : Hid (oneE (ruleOf (f, ts)) = ec) := by
                  rcases HO.out with h | h
                  · exact absurd h.1 hec
                  · exact h.2
                have HY : Hid (rulesEr (l.map ruleOf) = ⟨ec, some (k : Int)⟩) := by
                  show _ = _
                  exact HXS.out (k, ec) (by rw [HF.out, HDR.out, badAt, if_neg (by rw [HO2.out]; exact hec), HO2.out])
                have he0 : ((ec : Int) == 0) = false := by simpa using hec
                have hg0 : wr.heap[g]? = some (.cells #[.int .i64 0, .int .i64 0] 50 (0, 0)) := (hbq.block g (by omega)).trans HGB.out
                have f0 : wr.frozen? ⟨g, 0, none⟩ = false := Lib.frozen_of_heap hg0 0
                have f1 : wr.frozen? ⟨g, 1, none⟩ = false := Lib.frozen_of_heap hg0 1
                have e0 : wr.cell? ⟨g, 0, none⟩ = some (.int .i64 0) := by rw [Lib.cell_of_heap hg0]; rfl
                have e1 : wr.cell? ⟨g, 1, none⟩ = some (.int .i64 0) := by rw [Lib.cell_of_heap hg0]; rfl
                obtain ⟨s0, s1, s2⟩ := fault_store hg0 (.int .i64 ec) (.int .i64 k) hgw
                have S0 := Lib.hid s0
                have S1 := Lib.hid s1
                have S2 := Lib.hid s2
                have hbw2 : Below w.heap.size w wr := HBW.out.trans (hbq.mono hwB)
                clear hg0 s0 s1 s2 HO HO2
                go_wp2_with fail
                all_goals exact bodyPost_ret (v := .agg #[.int .i64 ec, .int .i64 k]) (by simp [results, Tryz.results70, go_sem, S0.out, S1.out]) rfl ⟨by rw [HY.out]; rfl, hbw2.trans S2.out⟩
      · obtain rfl : k = l.length := by omega
        have HY : Hid (rulesEr (l.map ruleOf) = ⟨0, none⟩) := HXN.out (by rw [HF.out, drop_rules]; rfl)
        have C := Lib.hid (refFine_any wr)
        go_wp2_with fail
        refine C.out.mono ?_
        clear C
        rintro e w1 ⟨rfl, hbx⟩
        have hb1 := hb.trans (hbx.mono (Nat.le_trans hBw hb.size))
        have hg0 : w1.heap[g]? = some (.cells #[.int .i64 0, .int .i64 0] 50 (0, 0)) := (hb1.block g (by omega)).trans HGB.out
        have f0 : w1.frozen? ⟨g, 0, none⟩ = false := Lib.frozen_of_heap hg0 0
        have f1 : w1.frozen? ⟨g, 1, none⟩ = false := Lib.frozen_of_heap hg0 1
        have e0 : w1.cell? ⟨g, 0, none⟩ = some (.int .i64 0) := by rw [Lib.cell_of_heap hg0]; rfl
        have e1 : w1.cell? ⟨g, 1, none⟩ = some (.int .i64 0) := by rw [Lib.cell_of_heap hg0]; rfl
        obtain ⟨s0, s1, s2⟩ := fault_store hg0 (.int .i64 0) (.int .i64 (-1)) hgw
        have S0 := Lib.hid s0
        have S1 := Lib.hid s1
        have S2 := Lib.hid s2
        have hbw2 : Below w.heap.size w w1 := HBW.out.trans (hb1.mono hwB)
        clear hg0 s0 s1 s2
        go_wp2_with fail
        exact bodyPost_ret (v := .agg #[.int .i64 0, .int .i64 (-1)]) (by simp [results, Tryz.results70, go_sem, S0.out, S1.out]) rfl ⟨by rw [HY.out]; rfl, hbw2.trans S2.out⟩
  · have HX : Hid (rulesEr (l.map ruleOf) = ⟨8, none⟩) := by show _ = _; unfold rulesEr; rw [if_pos (by rw [List.length_map]; omega)]
    have C := Lib.hid (refBare_any 8 wg)
    have hm10 : decide (10 < l.length) = true := decide_eq_true (by omega)
    go_wp2_with fail
    rw [HWA.out, HPA.out]
    refine C.out.mono ?_
    clear C
    rintro e w1 ⟨rfl, hbx⟩
    have hg0 : w1.heap[g]? = some (.cells #[.int .i64 0, .int .i64 0] 50 (0, 0)) := (hbx.block g (by omega)).trans HGB.out
    have f0 : w1.frozen? ⟨g, 0, none⟩ = false := Lib.frozen_of_heap hg0 0
    have f1 : w1.frozen? ⟨g, 1, none⟩ = false := Lib.frozen_of_heap hg0 1
    have e0 : w1.cell? ⟨g, 0, none⟩ = some (.int .i64 0) := by rw [Lib.cell_of_heap hg0]; rfl
    have e1 : w1.cell? ⟨g, 1, none⟩ = some (.int .i64 0) := by rw [Lib.cell_of_heap hg0]; rfl
    obtain ⟨s0, s1, s2⟩ := fault_store hg0 (.int .i64 8) (.int .i64 (-1)) hgw
    have S0 := Lib.hid s0
    have S1 := Lib.hid s1
    have S2 := Lib.hid s2
    have hbw2 : Below w.heap.size w w1 := HBW.out.trans (hbx.mono (Nat.le_trans hwB hBw))
    clear hg0 s0 s1 s2
    go_wp2_with fail
    exact bodyPost_ret (v := .agg #[.int .i64 8, .int .i64 (-1)]) (by simp [results, Tryz.results70, go_sem, S0.out, S1.out]) rfl ⟨by rw [HX.out]; rfl, hbw2.trans S2.out⟩
end Go.Proofs.YtomceddfbfpjjaaGreatDoor

namespace Go.Proofs.YtomceddfbfpjjaaGreatDoor
open Go Go.RowKit

theorem fault_heap {w : World} {g : Nat} {a b : Value} (h : w.heap[g]? = some (.cells #[a, b] 50 (0, 0))) (x y : Value) :
    ((w.setCell ⟨g, 0, none⟩ x).setCell ⟨g, 1, none⟩ y).heap[g]? = some (.cells #[x, y] 50 (0, 0)) := by
  simp [World.setCell, Array.getElem?_modify, h]
theorem flat_low {w : World} {B : Nat} {v : Value} {xs : List ByteArray} (h : w.ownsRow B 9 1 v xs.length (xs.flatMap encStr)) : w.ownsRow 0 9 1 v xs.length (xs.flatMap encStr) := by
  refine ⟨h.1, ?_⟩
  rcases h.2 with h0 | ⟨g, cap, cur, hv, hb, hr⟩
  · exact .inl h0
  · exact .inr ⟨g, cap, cur, hv, Nat.zero_le _, hr⟩
/-- What WaysOf hands back. -/
def RWPost (l : List RuleB) (s : ByteArray) (w : World) (e : Ending) (w' : World) : Prop :=
  ∃ (ov : Value) (xs : List ByteArray), e = .returned (.tuple #[ov, .agg (erA (waysEr (l.map ruleOf) (bl s)))]) ∧ Hid (w'.ownsRow 0 9 1 ov xs.length (xs.flatMap encStr)) ∧ Hid (xs.map bl = if (waysEr (l.map ruleOf) (bl s)).code = 0 then waysOut (l.map ruleOf) (bl s) else []) ∧ xs.length ≤ 20 ∧ Below w.heap.size w w'
/-- Which rule was the longest till now, and how long. -/
def KeyFar (l : List RuleB) (i : Nat) (av fv : Value) (acc : Option RuleL) : Prop :=
  (av = .int .i64 (-1) ∧ fv = .int .i64 (-1) ∧ acc = none) ∨ ∃ k : Nat, k < i ∧ av = .int .i64 k ∧ ∃ h : k < l.length, fv = .int .i64 l[k].1.size ∧ acc = some (ruleOf l[k])
theorem row_of_flat {w : World} {B : Nat} {v : Value} {xs : List ByteArray} (h : w.ownsRow B 9 1 v xs.length (xs.flatMap encStr)) : Row encStr 1 w v xs := Row.of_owns (fun _ => rfl) h

set_option maxHeartbeats 4000000 in
set_option maxRecDepth 100000 in
theorem refWaysOf_any (v : Value) (l : List RuleB) (s : ByteArray) (w : World) (hl : l.length ≤ 1000) (hs : ∀ r ∈ l, Small r) (hss : s.size ≤ 120) (hv : RulesRow w v l) :
    Calls Tryz.prog 43 #[v, .string s] w (RWPost l s w) := by
  obtain ⟨i0, hi0, hz0, hz1, hz2⟩ := info_parts Tryz.infoW
  obtain ⟨g, hg⟩ : ∃ g, w.heap.size = g := ⟨_, rfl⟩
  obtain ⟨wg, hwg⟩ : ∃ wg, w.alloc (.cells #[.int .i64 0, .int .i64 0] 50) = wg := ⟨_, rfl⟩
  have hal : Below w.heap.size w wg := by rw [← hwg]; exact (Below.refl _ _).alloc (Nat.le_refl _) _
  have hA : wg.heap[g]? = some (.cells #[.int .i64 0, .int .i64 0] 50 (0, 0)) := by rw [← hwg, ← hg]; exact heap_alloc_new _ _
  have C := Lib.hid (refRulesFault_any v l wg hl hs (hv.ext hal))
  obtain ⟨ao, cap, rfl, h1, h2, H3⟩ := hv
  have HM := Lib.hid H3
  have HS := Lib.hid hs
  have HGB := Lib.hid hA
  have hgl : g < wg.heap.size := (Array.getElem?_eq_some_iff.1 hA).1
  have hgw : w.heap.size ≤ g := Nat.le_of_eq hg
  have HBW := Lib.hid hal
  have HWA := Lib.hid hwg
  have HPA := Lib.hid hg
  clear hal hA hwg hg H3 hs
  go_enter Tryz.func43, Tryz.ntmps43
  go_wp2_with fail
  rw [HWA.out, HPA.out]
  refine C.out.mono ?_
  clear C
  rintro e w1 ⟨rfl, hb1⟩
  -- the fault's own block
  obtain ⟨q, hq⟩ : ∃ q, w1.heap.size = q := ⟨_, rfl⟩
  obtain ⟨er, her⟩ : ∃ er, rulesEr (l.map ruleOf) = er := ⟨_, rfl⟩
  have HER := Lib.hid her
  rw [her]
  clear her
  unfold erA
  obtain ⟨w2, hw2⟩ : ∃ w2, w1.alloc (.cells #[.int .i64 er.code, .int .i64 (er.at?.getD (-1))] 50) = w2 := ⟨_, rfl⟩
  have hq2 : w2.heap[q]? = some (.cells #[.int .i64 er.code, .int .i64 (er.at?.getD (-1))] 50 (0, 0)) := by rw [← hw2, ← hq]; exact heap_alloc_new _ _
  have hb2 : Below w1.heap.size w1 w2 := by rw [← hw2]; exact (Below.refl _ _).alloc (Nat.le_refl _) _
  have hgq : g < q := by rw [← hq]; exact Nat.lt_of_lt_of_le hgl hb1.size
  have hg2 : w2.heap[g]? = some (.cells #[.int .i64 0, .int .i64 0] 50 (0, 0)) := ((hb2.block g (by omega)).trans (hb1.block g hgl)).trans HGB.out
  have hbw2 : Below w.heap.size w w2 := HBW.out.trans ((hb1.trans (hb2.mono hb1.size)).mono HBW.out.size)
  have c0 : w2.cell? ⟨q, 0, none⟩ = some (.int .i64 er.code) := by rw [Lib.cell_of_heap hq2]; rfl
  have c1 : w2.cell? ⟨q, 1, none⟩ = some (.int .i64 (er.at?.getD (-1))) := by rw [Lib.cell_of_heap hq2]; rfl
  have HQ2 := Lib.hid hq2
  have HG2 := Lib.hid hg2
  have HGW := Lib.hid hgw
  clear hq2 hg2 hb1 hb2 hgl
  by_cases h0 : er.code = 0
  · have hz : ((er.code : Int) == 0) = true := by rw [h0]; rfl
    have HW : Hid (waysEr (l.map ruleOf) (bl s) = ⟨linkE (bl s), none⟩) := by show _ = _; unfold waysEr; rw [HER.out, if_pos h0]
    have C := Lib.hid (refLinkError_any s w2 (by omega))
    clear h0
    go_wp2_with fail
    refine C.out.mono ?_
    clear C
    rintro e w3 ⟨rfl, hb3⟩
    have C := Lib.hid (refBare_any (linkE (bl s)) w3)
    go_wp2_with fail
    refine C.out.mono ?_
    clear C
    rintro e w4 ⟨rfl, hb4⟩
    have hb24 := hb3.trans (hb4.mono hb3.size)
    have hql : q < w2.heap.size := (Array.getElem?_eq_some_iff.1 HQ2.out).1
    have hq4 : w4.heap[q]? = _ := (hb24.block q hql).trans HQ2.out
    have hg4 : w4.heap[g]? = _ := (hb24.block g (by omega)).trans HG2.out
    have k0 : w4.cell? ⟨q, 0, none⟩ = some (.int .i64 er.code) := by rw [Lib.cell_of_heap hq4]; rfl
    have k1 : w4.cell? ⟨q, 1, none⟩ = some (.int .i64 (er.at?.getD (-1))) := by rw [Lib.cell_of_heap hq4]; rfl
    have kf0 : w4.frozen? ⟨q, 0, none⟩ = false := Lib.frozen_of_heap hq4 0
    have kf1 : w4.frozen? ⟨q, 1, none⟩ = false := Lib.frozen_of_heap hq4 1
    obtain ⟨c, hc⟩ : ∃ c, linkE (bl s) = c := ⟨_, rfl⟩
    rw [hc] at HW ⊢
    obtain ⟨w5, hw5⟩ : ∃ w5, ((w4.setCell ⟨q, 0, none⟩ (.int .i64 c)).setCell ⟨q, 1, none⟩ (.int .i64 (-1))) = w5 := ⟨_, rfl⟩
    have hq5 : w5.heap[q]? = some (.cells #[.int .i64 c, .int .i64 (-1)] 50 (0, 0)) := by rw [← hw5]; exact fault_heap hq4 _ _
    have hqg : g ≠ q := by omega
    have hg5 : w5.heap[g]? = some (.cells #[.int .i64 0, .int .i64 0] 50 (0, 0)) := by
      rw [← hw5, Below.heap_setCell _ _ _ _ hqg, Below.heap_setCell _ _ _ _ hqg]; exact hg4
    have hq1 : w.heap.size ≤ q := by have := HGW.out; omega
    have hbw5 : Below w.heap.size w w5 := by
      rw [← hw5]
      exact ((hbw2.trans (hb24.mono hbw2.size)).setCell (p := ⟨q, 0, none⟩) hq1 _).setCell (p := ⟨q, 1, none⟩) hq1 _
    have c0 : w5.cell? ⟨q, 0, none⟩ = some (.int .i64 c) := by rw [Lib.cell_of_heap hq5]; rfl
    have c1 : w5.cell? ⟨q, 1, none⟩ = some (.int .i64 (-1)) := by rw [Lib.cell_of_heap hq5]; rfl
    have HQ5 := Lib.hid hq5
    have HG5 := Lib.hid hg5
    have HQL := Lib.hid (Array.getElem?_eq_some_iff.1 hq5).1
    have HGL := Lib.hid (Array.getElem?_eq_some_iff.1 hg5).1
    have HBW5 := Lib.hid hbw5
    clear hb3 hb4 hb24 hq4 hg4 hq5 hg5 hbw2 hc hqg hq1 hql
    cases c with
    | succ c =>
      rw [show (((c + 1 : Nat)) : Int) = (c : Int) + 1 from rfl] at hw5 c0
      have hpos : (0 : Int) < (c : Int) + 1 := by omega
      have HX : Hid (waysEr (l.map ruleOf) (bl s) = ⟨c + 1, none⟩) := HW
      have HNZ : Hid ((waysEr (l.map ruleOf) (bl s)).code ≠ 0) := by show _ ≠ _; rw [HX.out]; simp
      clear HW
      have f0 : w5.frozen? ⟨g, 0, none⟩ = false := Lib.frozen_of_heap HG5.out 0
      have f1 : w5.frozen? ⟨g, 1, none⟩ = false := Lib.frozen_of_heap HG5.out 1
      have e0 : w5.cell? ⟨g, 0, none⟩ = some (.int .i64 0) := by rw [Lib.cell_of_heap HG5.out]; rfl
      have e1 : w5.cell? ⟨g, 1, none⟩ = some (.int .i64 0) := by rw [Lib.cell_of_heap HG5.out]; rfl
      obtain ⟨s0, s1, s2⟩ := fault_store HG5.out (.int .i64 ((c : Int) + 1)) (.int .i64 (-1)) HGW.out
      have S0 := Lib.hid s0
      have S1 := Lib.hid s1
      have S2 := Lib.hid s2
      clear s0 s1 s2
      go_wp2_with fail
      go_region
      go_wp2_with fail
      exact bodyPost_ret (v := .tuple #[.slice none 0 0, .agg #[.int .i64 ((c : Int) + 1), .int .i64 (-1)]]) (by simp [results, Tryz.results43, go_sem, S0.out, S1.out]) rfl ⟨.slice none 0 0, [], by rw [HX.out]; rfl, World.ownsRow_nil _ _ _ _, by show _ = _; rw [if_neg HNZ.out]; rfl, Nat.zero_le _, hbw5.trans (S2.out.trans (below_drewN _ _ 1))⟩
    | zero =>
      rw [show ((0 : Nat) : Int) = 0 from rfl] at hw5 c0 HQ5
      have HX : Hid (waysEr (l.map ruleOf) (bl s) = ⟨0, none⟩) := HW
      clear HW
      go_wp2_with fail
      go_loopw [7, 8, 9] (fun av fv i wr => ∃ (k : Nat) (acc : Option RuleL), k ≤ l.length ∧ i = .int .i64 k ∧ Hid (KeyFar l k av fv acc) ∧ Hid (pickR (bl s) none (l.map ruleOf) = pickR (bl s) acc ((l.map ruleOf).drop k)) ∧ Below w5.heap.size w5 wr) (fun _ _ i _ => l.length - (intOf i).toNat)
      case atStart => exact ⟨0, none, Nat.zero_le _, rfl, .inl ⟨rfl, rfl, rfl⟩, rfl, Below.refl _ _⟩
      case round =>
        obtain ⟨k, acc, hk, rfl, HKF, HF, hb⟩ := hrel
        by_cases hlt : k < l.length
        · obtain ⟨b, off, rfl, hbl, hcell⟩ := HM.out k hlt
          obtain ⟨d1, tv, d2, d3⟩ := hcell k hlt
          have hbwr := HBW5.out.trans (hb.mono HBW5.out.size)
          have cl1 := (hbwr.cell (p := ⟨b, off + k * 2, none⟩) hbl).trans d1
          have HD := Lib.hid (drop_rule l k hlt)
          obtain ⟨f, hf⟩ : ∃ f, l[k].1 = f := ⟨_, rfl⟩
          rw [hf] at cl1
          have hfz : f.size ≤ 120 := by rw [← hf]; exact (HS.out _ (List.getElem_mem hlt)).1
          have HFE := Lib.hid hf
          clear hcell d1 d2 d3 hf hbwr
          have C := Lib.hid (refBegins_any s f wr)
          obtain ⟨p, hp⟩ : ∃ p, Lib.hasPrefix (bl s) (bl f) = p := ⟨_, rfl⟩
          rw [hp] at C
          cases p with
          | false =>
            have HY : Hid (pickR (bl s) none (l.map ruleOf) = pickR (bl s) acc ((l.map ruleOf).drop (k + 1))) := by
              show _ = _
              rw [HF.out, HD.out, pickR, if_neg (by rw [takes_no (r := ruleOf l[k]) (by show Lib.hasPrefix (bl s) (bl l[k].1) = false; rw [HFE.out]; exact hp)]; decide)]
            have HK2 : Hid (KeyFar l (k + 1) u7 u8 acc) := by
              rcases HKF.out with h | ⟨kk, h1, h2⟩
              · exact .inl h
              · exact .inr ⟨kk, by omega, h2⟩
            clear hp HF HD HKF
            go_wp2_with fail
            refine C.out.mono ?_
            clear C
            rintro e w6 ⟨rfl, rfl⟩
            go_wp2_with fail
            go_roundw
            case rel => exact ⟨k + 1, acc, by omega, by go_num, HK2, HY, hb⟩
            case measure => simp [intOf]; omega
          | true =>
            rcases HKF.out with ⟨rfl, rfl, rfl⟩ | ⟨kk, hkk, rfl, hkl, rfl, rfl⟩
            · have HY : Hid (pickR (bl s) none (l.map ruleOf) = pickR (bl s) (some (ruleOf l[k])) ((l.map ruleOf).drop (k + 1))) := by
                show _ = _
                rw [HF.out, HD.out, pickR, if_pos (by unfold takes; rw [show (ruleOf l[k]).1 = bl f by show bl l[k].1 = _; rw [HFE.out], hp]; rfl)]
              have HK2 : Hid (KeyFar l (k + 1) (.int .i64 k) (.int .i64 f.size) (some (ruleOf l[k]))) := .inr ⟨k, by omega, rfl, hlt, by rw [HFE.out], rfl⟩
              have hgt : ((-1 : Int) < (f.size : Int)) := by omega
              clear hp HF HD HKF
              go_wp2_with fail
              refine C.out.mono ?_
              clear C
              rintro e w6 ⟨rfl, rfl⟩
              go_wp2_with fail
              go_roundw
              case rel => exact ⟨k + 1, _, by omega, by go_num, HK2, HY, hb⟩
              case measure => simp [intOf]; omega
            · obtain ⟨gg, hgg⟩ : ∃ gg, l[kk].1 = gg := ⟨_, rfl⟩
              have hgz : gg.size ≤ 120 := by rw [← hgg]; exact (HS.out _ (List.getElem_mem hkl)).1
              have HQ : Hid ((ruleOf l[kk]).1.length = gg.size) := by show (bl l[kk].1).length = _; rw [bl_length, hgg]
              rw [hgg]
              have HGE := Lib.hid hgg
              clear hgg
              by_cases hlen : gg.size < f.size
              · have HY : Hid (pickR (bl s) none (l.map ruleOf) = pickR (bl s) (some (ruleOf l[k])) ((l.map ruleOf).drop (k + 1))) := by
                  show _ = _
                  rw [HF.out, HD.out, pickR, if_pos]
                  unfold takes
                  rw [show (ruleOf l[k]).1 = bl f by show bl l[k].1 = _; rw [HFE.out], hp]
                  simp only [Bool.true_and, decide_eq_true_eq]
                  rw [HQ.out, bl_length]; exact hlen
                have HK2 : Hid (KeyFar l (k + 1) (.int .i64 k) (.int .i64 f.size) (some (ruleOf l[k]))) := .inr ⟨k, by omega, rfl, hlt, by rw [HFE.out], rfl⟩
                clear hp HF HD HKF HQ
                go_wp2_with fail
                refine C.out.mono ?_
                clear C
                rintro e w6 ⟨rfl, rfl⟩
                go_wp2_with fail
                go_roundw
                case rel => exact ⟨k + 1, _, by omega, by go_num, HK2, HY, hb⟩
                case measure => simp [intOf]; omega
              · have HY : Hid (pickR (bl s) none (l.map ruleOf) = pickR (bl s) (some (ruleOf l[kk])) ((l.map ruleOf).drop (k + 1))) := by
                  show _ = _
                  rw [HF.out, HD.out, pickR, if_neg]
                  unfold takes
                  rw [show (ruleOf l[k]).1 = bl f by show bl l[k].1 = _; rw [HFE.out], hp]
                  simp only [Bool.true_and, decide_eq_true_eq]
                  rw [HQ.out, bl_length]; exact hlen
                have HK2 : Hid (KeyFar l (k + 1) (.int .i64 kk) (.int .i64 gg.size) (some (ruleOf l[kk]))) := .inr ⟨kk, by omega, rfl, hkl, by rw [HGE.out], rfl⟩
                clear hp HF HD HKF HQ
                go_wp2_with fail
                refine C.out.mono ?_
                clear C
                rintro e w6 ⟨rfl, rfl⟩
                go_wp2_with fail
                go_roundw
                case rel => exact ⟨k + 1, _, by omega, by go_num, HK2, HY, hb⟩
                case measure => simp [intOf]; omega
        · obtain rfl : k = l.length := by omega
          have HPK : Hid (pickR (bl s) none (l.map ruleOf) = acc) := by show _ = _; rw [HF.out, drop_rules]; rfl
          clear HF
          rcases HKF.out with ⟨rfl, rfl, rfl⟩ | ⟨kk, hkk, rfl, hkl, rfl, rfl⟩
          · have HR3 : Hid (wr.ownsRow w5.heap.size 9 1 (.slice none 0 0) ([] : List ByteArray).length (([] : List ByteArray).flatMap encStr)) := World.ownsRow_nil _ _ _ _
            have HP : Hid (([] : List ByteArray).map bl = waysR (bl s) (pickR (bl s) none (l.map ruleOf))) := by show _ = _; rw [HPK.out]; rfl
            obtain ⟨xs, hxs⟩ : ∃ xs : List ByteArray, xs = [] := ⟨_, rfl⟩
            rw [← hxs] at HR3 HP
            have hx10 : xs.length ≤ 10 := by rw [hxs]; decide
            clear hxs
            have C := Lib.hid (refInTexts_any s (row_of_flat HR3.out) (by omega))
            go_wp2_with fail
            refine C.out.mono ?_
            clear C
            rintro e w6 ⟨rfl, hb6⟩
            have hb56 := hb.trans (hb6.mono hb.size)
            have HR6 := Lib.hid (owns_below HR3.out hb6)
            have hq6 : w6.heap[q]? = some (.cells #[.int .i64 0, .int .i64 (-1)] 50 (0, 0)) := (hb56.block q HQL.out).trans HQ5.out
            have hg6 : w6.heap[g]? = some (.cells #[.int .i64 0, .int .i64 0] 50 (0, 0)) := (hb56.block g HGL.out).trans HG5.out
            cases hc : (xs.map bl).contains (bl s) with
            | true =>
              have HO : Hid (xs.map bl = waysOut (l.map ruleOf) (bl s)) := by show _ = _; unfold waysOut; rw [← HP.out, if_pos (List.contains_iff_mem.1 hc)]
              clear hc
              have c0 : w6.cell? ⟨q, 0, none⟩ = some (.int .i64 0) := by rw [Lib.cell_of_heap hq6]; rfl
              have c1 : w6.cell? ⟨q, 1, none⟩ = some (.int .i64 (-1)) := by rw [Lib.cell_of_heap hq6]; rfl
              have f0 : w6.frozen? ⟨g, 0, none⟩ = false := Lib.frozen_of_heap hg6 0
              have f1 : w6.frozen? ⟨g, 1, none⟩ = false := Lib.frozen_of_heap hg6 1
              have e0 : w6.cell? ⟨g, 0, none⟩ = some (.int .i64 0) := by rw [Lib.cell_of_heap hg6]; rfl
              have e1 : w6.cell? ⟨g, 1, none⟩ = some (.int .i64 0) := by rw [Lib.cell_of_heap hg6]; rfl
              obtain ⟨s0, s1, s2⟩ := fault_store (gw := w.heap.size) hg6 (.int .i64 0) (.int .i64 (-1)) HGW.out
              obtain ⟨s3, s4, s5⟩ := fault_store (gw := g) hg6 (.int .i64 0) (.int .i64 (-1)) (Nat.le_refl _)
              have HRW := Lib.hid (ownsRow_setCell_below (ownsRow_setCell_below HR6.out (a := ⟨g, 0, none⟩) HGL.out (.int .i64 0)) (a := ⟨g, 1, none⟩) HGL.out (.int .i64 (-1)))
              have S0 := Lib.hid s0
              have S1 := Lib.hid s1
              have S2 := Lib.hid s2
              have hfin := Lib.hid (HBW5.out.trans (hb56.mono (HBW5.out.size)))
              clear s0 s1 s2 s3 s4 s5 hq6 hg6
              go_wp2_with fail
              go_region
              go_wp2_with fail
              exact bodyPost_ret (v := .tuple #[(.slice none 0 0), .agg #[.int .i64 0, .int .i64 (-1)]]) (by simp [results, Tryz.results43, go_sem, S0.out, S1.out]) rfl ⟨(.slice none 0 0), xs, by rw [HX.out]; rfl, flat_low HRW.out, by show _ = _; rw [HX.out, if_pos rfl]; exact HO.out, by first | omega | (simp; omega), hfin.out.trans (S2.out.trans (below_drewN _ _ 1))⟩

            | false =>
              have HO : Hid ((xs ++ [s]).map bl = waysOut (l.map ruleOf) (bl s)) := by
                show _ = _
                unfold waysOut
                rw [← HP.out, if_neg (by intro h; rw [List.contains_iff_mem.2 h] at hc; cases hc), List.map_append]; rfl
              clear hc
              go_wp2_with (at_builtin; refine wpList_append_own _ rfl _ _ 35 rfl w5.heap.size 9 i0 (.string ⟨#[]⟩) 1 16 Tryz.underlying35 hi0 hz0 hz1 hz2 rfl (by decide) _ _ _ rfl (HR6.out.alloc _) ⟨w6.heap.size, 0, none⟩ 1 1 (encStr s) rfl rfl ?c1 ?c2 ?c3 ?c4 ?c5 ?_)
              case c1 =>
                intro j u hj
                match j, hj with
                | 0, hj => simp at hj; subst hj; simp [Addr.add]
              case c2 => intro u hu; simp at hu; subst hu; rfl
              case c3 => unfold maxLen; omega
              case c4 => omega
              case c5 => have := hb56.size; simp; omega

              intro v7 w7 hown7 hgrow7 _
              have hb57 : Below w5.heap.size w5 w7 := (hb56.alloc hb56.size _).grown hgrow7 (by have := hb56.size; simp; omega) (fun r e => (HR6.out.lt r e).1)
              have HR7 : Hid (w7.ownsRow w5.heap.size 9 1 v7 (xs ++ [s]).length ((xs ++ [s]).flatMap encStr)) := by
                show World.ownsRow _ _ _ _ _ _ _
                rw [List.length_append, List.flatMap_append]
                simpa using hown7
              have hq7 : w7.heap[q]? = some (.cells #[.int .i64 0, .int .i64 (-1)] 50 (0, 0)) := (hb57.block q HQL.out).trans HQ5.out
              have hg7 : w7.heap[g]? = some (.cells #[.int .i64 0, .int .i64 0] 50 (0, 0)) := (hb57.block g HGL.out).trans HG5.out
              clear hown7 hgrow7 hq6 hg6 hb56
              have c0 : w7.cell? ⟨q, 0, none⟩ = some (.int .i64 0) := by rw [Lib.cell_of_heap hq7]; rfl
              have c1 : w7.cell? ⟨q, 1, none⟩ = some (.int .i64 (-1)) := by rw [Lib.cell_of_heap hq7]; rfl
              have f0 : w7.frozen? ⟨g, 0, none⟩ = false := Lib.frozen_of_heap hg7 0
              have f1 : w7.frozen? ⟨g, 1, none⟩ = false := Lib.frozen_of_heap hg7 1
              have e0 : w7.cell? ⟨g, 0, none⟩ = some (.int .i64 0) := by rw [Lib.cell_of_heap hg7]; rfl
              have e1 : w7.cell? ⟨g, 1, none⟩ = some (.int .i64 0) := by rw [Lib.cell_of_heap hg7]; rfl
              obtain ⟨s0, s1, s2⟩ := fault_store (gw := w.heap.size) hg7 (.int .i64 0) (.int .i64 (-1)) HGW.out
              obtain ⟨s3, s4, s5⟩ := fault_store (gw := g) hg7 (.int .i64 0) (.int .i64 (-1)) (Nat.le_refl _)
              have HRW := Lib.hid (ownsRow_setCell_below (ownsRow_setCell_below HR7.out (a := ⟨g, 0, none⟩) HGL.out (.int .i64 0)) (a := ⟨g, 1, none⟩) HGL.out (.int .i64 (-1)))
              have S0 := Lib.hid s0
              have S1 := Lib.hid s1
              have S2 := Lib.hid s2
              have hfin := Lib.hid (HBW5.out.trans (hb57.mono (HBW5.out.size)))
              clear s0 s1 s2 s3 s4 s5 hq7 hg7
              go_wp2_with fail
              go_region
              go_wp2_with fail
              exact bodyPost_ret (v := .tuple #[v7, .agg #[.int .i64 0, .int .i64 (-1)]]) (by simp [results, Tryz.results43, go_sem, S0.out, S1.out]) rfl ⟨v7, (xs ++ [s]), by rw [HX.out]; rfl, flat_low HRW.out, by show _ = _; rw [HX.out, if_pos rfl]; exact HO.out, by first | omega | (simp; omega), hfin.out.trans (S2.out.trans (below_drewN _ _ 1))⟩
          · obtain ⟨b, off, rfl, hbl, hcell⟩ := HM.out kk hkl
            obtain ⟨d1, tv, d2, d3⟩ := hcell kk hkl
            obtain ⟨r, hr⟩ : ∃ r, l[kk] = r := ⟨_, rfl⟩
            rw [hr] at d1 d3 HPK ⊢
            have HZ := Lib.hid (HS.out r (by rw [← hr]; exact List.getElem_mem hkl))
            clear hcell hr HKF
            obtain ⟨f, ts⟩ := r
            obtain ⟨ao2, cap2, rfl, g1, g2, G3⟩ := d3.parts
            have HG := Lib.hid G3
            clear G3 d3
            dsimp only at d1 d2 HG g1 ⊢
            have hfz : f.size ≤ 120 := HZ.out.1
            have htz : ts.length ≤ 10 := HZ.out.2.1
            have HTZ : Hid (∀ t ∈ ts, t.size ≤ 120) := HZ.out.2.2
            have hge : decide ((0 : Int) ≤ (kk : Int)) = true := decide_eq_true (by omega)
            clear HZ
            go_wp2_with fail
            go_loopw [11, 12] (fun o i w3 => ∃ (m : Nat) (xs : List ByteArray), m ≤ ts.length ∧ i = .int .i64 m ∧ xs.length ≤ m ∧ Hid (w3.ownsRow w5.heap.size 9 1 o xs.length (xs.flatMap encStr)) ∧
              Hid (waysGo (bl f) (bl s) [] (ts.map bl) = waysGo (bl f) (bl s) (xs.map bl) ((ts.map bl).drop m)) ∧ Below w5.heap.size w5 w3) (fun _ i _ => ts.length - (intOf i).toNat)
            case atStart => exact ⟨0, [], Nat.zero_le _, rfl, Nat.le_refl _, World.ownsRow_nil _ _ _ _, rfl, hb⟩
            case round =>
              obtain ⟨m, xs, hm, rfl, hxm, HR3, HW, hb3⟩ := hrel
              have hbwr := HBW5.out.trans (hb3.mono HBW5.out.size)
              have cl1 := (hbwr.cell (p := ⟨b, off + kk * 2, none⟩) hbl).trans d1
              have cl2 := (hbwr.cell (p := ⟨b, off + kk * 2 + 1, none⟩) hbl).trans d2
              by_cases hmt : m < ts.length
              · obtain ⟨b2, off2, rfl, hbl2, hcell2⟩ := HG.out m hmt
                have cl4 := (hbwr.cell (p := ⟨b2, off2 + m, none⟩) hbl2).trans (hcell2 m hmt)
                have sz := HTZ.out ts[m] (List.getElem_mem hmt)
                have HD := Lib.hid (drop_bl ts m hmt)
                clear hcell2
                generalize ts[m] = t at cl4 sz HD
                have C := Lib.hid (refSwapOf_any f t s wr.drew (by omega) (by omega) (by omega))
                go_wp2_with fail
                go_region_held3 (fun W : World => W.cell? ⟨b, off + kk * 2, none⟩ = some (.string f) ∧ W.cell? ⟨b, off + kk * 2 + 1, none⟩ = some (.slice (some ⟨b2, off2, none⟩) ts.length cap2) ∧ W.cell? ⟨b2, off2 + m, none⟩ = some (.string t)) (first | exact ⟨dl1, dl2, dl4⟩ | exact ⟨cl1, cl2, cl4⟩)
                  (first
                    | (go_at_call 73; refine C.out.mono ?_; rintro e w4 ⟨⟨x, rfl, HX2⟩, hb4⟩; have dl1 := (hb4.cell (p := ⟨b, off + kk * 2, none⟩) (World.block_lt_of_cell? _ _ cl1)).trans cl1; have dl2 := (hb4.cell (p := ⟨b, off + kk * 2 + 1, none⟩) (World.block_lt_of_cell? _ _ cl2)).trans cl2; have dl4 := (hb4.cell (p := ⟨b2, off2 + m, none⟩) (World.block_lt_of_cell? _ _ cl4)).trans cl4))
                have hbd : Below wr.heap.size wr w4 := (below_drewN wr.heap.size wr 1).trans hb4
                have hb5 := hb3.trans (hbd.mono hb3.size)
                have HR4 := Lib.hid (owns_below HR3.out hbd)
                clear HR3 hb4 hbd cl1 cl2 cl4 dl1 dl2 dl4 C hbwr
                have C := Lib.hid (refInTexts_any x (row_of_flat HR4.out) (by omega))
                go_wp2_with fail
                refine C.out.mono ?_
                clear C
                rintro e w6 ⟨rfl, hb6⟩
                have hb56 := hb5.trans (hb6.mono hb5.size)
                have HR6 := Lib.hid (owns_below HR4.out hb6)
                clear HR4 hb5 hb6
                cases hc : swapE (bl f) (bl t) (bl s) with
                | succ c =>
                  have HW2 : Hid (waysGo (bl f) (bl s) [] (ts.map bl) = waysGo (bl f) (bl s) (xs.map bl) ((ts.map bl).drop (m + 1))) := by
                    show _ = _
                    rw [HW.out, HD.out, waysGo, if_neg (by rintro ⟨h, _⟩; rw [hc] at h; cases h)]
                  have hne : (((c + 1 : Nat) : Int) == 0) = false := by simpa using (by omega : (c : Int) + 1 ≠ 0)
                  clear hc HW HD
                  go_wp2_with fail
                  go_roundw
                  case rel => exact ⟨m + 1, xs, by omega, by go_num, by omega, HR6, HW2, hb56⟩
                  case measure => simp [intOf]; omega
                | zero =>
                  have HC0 := Lib.hid hc
                  clear hc
                  cases hc : (xs.map bl).contains (bl x) with
                  | true =>
                    have HW2 : Hid (waysGo (bl f) (bl s) [] (ts.map bl) = waysGo (bl f) (bl s) (xs.map bl) ((ts.map bl).drop (m + 1))) := by
                      show _ = _
                      rw [HW.out, HD.out, waysGo, if_neg (by rintro ⟨_, h⟩; exact h (by rw [← HX2.out]; exact List.contains_iff_mem.1 hc))]
                    clear hc HW HD
                    go_wp2_with fail
                    go_roundw
                    case rel => exact ⟨m + 1, xs, by omega, by go_num, by omega, HR6, HW2, hb56⟩
                    case measure => simp [intOf]; omega
                  | false =>
                    have HW2 : Hid (waysGo (bl f) (bl s) [] (ts.map bl) = waysGo (bl f) (bl s) ((xs ++ [x]).map bl) ((ts.map bl).drop (m + 1))) := by
                      show _ = _
                      rw [HW.out, HD.out, waysGo, if_pos ⟨HC0.out, by rw [← HX2.out]; intro h; rw [List.contains_iff_mem.2 h] at hc; cases hc⟩, List.map_append, ← HX2.out]; rfl
                    clear hc HW HD
                    go_wp2_with (at_builtin; refine wpList_append_own _ rfl _ _ 35 rfl w5.heap.size 9 i0 (.string ⟨#[]⟩) 1 16 Tryz.underlying35 hi0 hz0 hz1 hz2 rfl (by decide) _ _ _ rfl (HR6.out.alloc _) ⟨w6.heap.size, 0, none⟩ 1 1 (encStr x) rfl rfl ?c1 ?c2 ?c3 ?c4 ?c5 ?_)
                    case c1 =>
                      intro j u hj
                      match j, hj with
                      | 0, hj => simp at hj; subst hj; simp [Addr.add]
                    case c2 => intro u hu; simp at hu; subst hu; rfl
                    case c3 => unfold maxLen; omega
                    case c4 => omega
                    case c5 => have := hb56.size; simp; omega

                    intro v7 w7 hown7 hgrow7 _
                    have hb57 : Below w5.heap.size w5 w7 := (hb56.alloc hb56.size _).grown hgrow7 (by have := hb56.size; simp; omega) (fun r e => (HR6.out.lt r e).1)
                    have HR7 : Hid (w7.ownsRow w5.heap.size 9 1 v7 (xs ++ [x]).length ((xs ++ [x]).flatMap encStr)) := by
                      show World.ownsRow _ _ _ _ _ _ _
                      rw [List.length_append, List.flatMap_append]
                      simpa using hown7
                    clear hown7 hgrow7 hb56 HR6
                    go_wp2_with fail
                    go_roundw
                    case rel => exact ⟨m + 1, xs ++ [x], by omega, by go_num, by simp; omega, HR7, HW2, hb57⟩
                    case measure => simp [intOf]; omega
              · obtain rfl : m = ts.length := by omega
                have HP : Hid (xs.map bl = waysR (bl s) (pickR (bl s) none (l.map ruleOf))) := by
                  show _ = _
                  have h := HW.out
                  rw [drop_end] at h
                  rw [HPK.out]
                  exact h.symm
                have hx10 : xs.length ≤ 10 := by omega
                clear HW
                have C := Lib.hid (refInTexts_any s (row_of_flat HR3.out) (by omega))
                go_wp2_with fail
                refine C.out.mono ?_
                clear C
                rintro e w6 ⟨rfl, hb6⟩
                have hb56 := hb3.trans (hb6.mono hb3.size)
                have HR6 := Lib.hid (owns_below HR3.out hb6)
                have hq6 : w6.heap[q]? = some (.cells #[.int .i64 0, .int .i64 (-1)] 50 (0, 0)) := (hb56.block q HQL.out).trans HQ5.out
                have hg6 : w6.heap[g]? = some (.cells #[.int .i64 0, .int .i64 0] 50 (0, 0)) := (hb56.block g HGL.out).trans HG5.out
                cases hc : (xs.map bl).contains (bl s) with
                | true =>
                  have HO : Hid (xs.map bl = waysOut (l.map ruleOf) (bl s)) := by show _ = _; unfold waysOut; rw [← HP.out, if_pos (List.contains_iff_mem.1 hc)]
                  clear hc
                  have c0 : w6.cell? ⟨q, 0, none⟩ = some (.int .i64 0) := by rw [Lib.cell_of_heap hq6]; rfl
                  have c1 : w6.cell? ⟨q, 1, none⟩ = some (.int .i64 (-1)) := by rw [Lib.cell_of_heap hq6]; rfl
                  have f0 : w6.frozen? ⟨g, 0, none⟩ = false := Lib.frozen_of_heap hg6 0
                  have f1 : w6.frozen? ⟨g, 1, none⟩ = false := Lib.frozen_of_heap hg6 1
                  have e0 : w6.cell? ⟨g, 0, none⟩ = some (.int .i64 0) := by rw [Lib.cell_of_heap hg6]; rfl
                  have e1 : w6.cell? ⟨g, 1, none⟩ = some (.int .i64 0) := by rw [Lib.cell_of_heap hg6]; rfl
                  obtain ⟨s0, s1, s2⟩ := fault_store (gw := w.heap.size) hg6 (.int .i64 0) (.int .i64 (-1)) HGW.out
                  obtain ⟨s3, s4, s5⟩ := fault_store (gw := g) hg6 (.int .i64 0) (.int .i64 (-1)) (Nat.le_refl _)
                  have HRW := Lib.hid (ownsRow_setCell_below (ownsRow_setCell_below HR6.out (a := ⟨g, 0, none⟩) HGL.out (.int .i64 0)) (a := ⟨g, 1, none⟩) HGL.out (.int .i64 (-1)))
                  have S0 := Lib.hid s0
                  have S1 := Lib.hid s1
                  have S2 := Lib.hid s2
                  have hfin := Lib.hid (HBW5.out.trans (hb56.mono (HBW5.out.size)))
                  clear s0 s1 s2 s3 s4 s5 hq6 hg6
                  go_wp2_with fail
                  go_region
                  go_wp2_with fail
                  exact bodyPost_ret (v := .tuple #[u11, .agg #[.int .i64 0, .int .i64 (-1)]]) (by simp [results, Tryz.results43, go_sem, S0.out, S1.out]) rfl ⟨u11, xs, by rw [HX.out]; rfl, flat_low HRW.out, by show _ = _; rw [HX.out, if_pos rfl]; exact HO.out, by first | omega | (simp; omega), hfin.out.trans (S2.out.trans (below_drewN _ _ 1))⟩

                | false =>
                  have HO : Hid ((xs ++ [s]).map bl = waysOut (l.map ruleOf) (bl s)) := by
                    show _ = _
                    unfold waysOut
                    rw [← HP.out, if_neg (by intro h; rw [List.contains_iff_mem.2 h] at hc; cases hc), List.map_append]; rfl
                  clear hc
                  go_wp2_with (at_builtin; refine wpList_append_own _ rfl _ _ 35 rfl w5.heap.size 9 i0 (.string ⟨#[]⟩) 1 16 Tryz.underlying35 hi0 hz0 hz1 hz2 rfl (by decide) _ _ _ rfl (HR6.out.alloc _) ⟨w6.heap.size, 0, none⟩ 1 1 (encStr s) rfl rfl ?c1 ?c2 ?c3 ?c4 ?c5 ?_)
                  case c1 =>
                    intro j u hj
                    match j, hj with
                    | 0, hj => simp at hj; subst hj; simp [Addr.add]
                  case c2 => intro u hu; simp at hu; subst hu; rfl
                  case c3 => unfold maxLen; omega
                  case c4 => omega
                  case c5 => have := hb56.size; simp; omega

                  intro v7 w7 hown7 hgrow7 _
                  have hb57 : Below w5.heap.size w5 w7 := (hb56.alloc hb56.size _).grown hgrow7 (by have := hb56.size; simp; omega) (fun r e => (HR6.out.lt r e).1)
                  have HR7 : Hid (w7.ownsRow w5.heap.size 9 1 v7 (xs ++ [s]).length ((xs ++ [s]).flatMap encStr)) := by
                    show World.ownsRow _ _ _ _ _ _ _
                    rw [List.length_append, List.flatMap_append]
                    simpa using hown7
                  have hq7 : w7.heap[q]? = some (.cells #[.int .i64 0, .int .i64 (-1)] 50 (0, 0)) := (hb57.block q HQL.out).trans HQ5.out
                  have hg7 : w7.heap[g]? = some (.cells #[.int .i64 0, .int .i64 0] 50 (0, 0)) := (hb57.block g HGL.out).trans HG5.out
                  clear hown7 hgrow7 hq6 hg6 hb56
                  have c0 : w7.cell? ⟨q, 0, none⟩ = some (.int .i64 0) := by rw [Lib.cell_of_heap hq7]; rfl
                  have c1 : w7.cell? ⟨q, 1, none⟩ = some (.int .i64 (-1)) := by rw [Lib.cell_of_heap hq7]; rfl
                  have f0 : w7.frozen? ⟨g, 0, none⟩ = false := Lib.frozen_of_heap hg7 0
                  have f1 : w7.frozen? ⟨g, 1, none⟩ = false := Lib.frozen_of_heap hg7 1
                  have e0 : w7.cell? ⟨g, 0, none⟩ = some (.int .i64 0) := by rw [Lib.cell_of_heap hg7]; rfl
                  have e1 : w7.cell? ⟨g, 1, none⟩ = some (.int .i64 0) := by rw [Lib.cell_of_heap hg7]; rfl
                  obtain ⟨s0, s1, s2⟩ := fault_store (gw := w.heap.size) hg7 (.int .i64 0) (.int .i64 (-1)) HGW.out
                  obtain ⟨s3, s4, s5⟩ := fault_store (gw := g) hg7 (.int .i64 0) (.int .i64 (-1)) (Nat.le_refl _)
                  have HRW := Lib.hid (ownsRow_setCell_below (ownsRow_setCell_below HR7.out (a := ⟨g, 0, none⟩) HGL.out (.int .i64 0)) (a := ⟨g, 1, none⟩) HGL.out (.int .i64 (-1)))
                  have S0 := Lib.hid s0
                  have S1 := Lib.hid s1
                  have S2 := Lib.hid s2
                  have hfin := Lib.hid (HBW5.out.trans (hb57.mono (HBW5.out.size)))
                  clear s0 s1 s2 s3 s4 s5 hq7 hg7
                  go_wp2_with fail
                  go_region
                  go_wp2_with fail
                  exact bodyPost_ret (v := .tuple #[v7, .agg #[.int .i64 0, .int .i64 (-1)]]) (by simp [results, Tryz.results43, go_sem, S0.out, S1.out]) rfl ⟨v7, (xs ++ [s]), by rw [HX.out]; rfl, flat_low HRW.out, by show _ = _; rw [HX.out, if_pos rfl]; exact HO.out, by first | omega | (simp; omega), hfin.out.trans (S2.out.trans (below_drewN _ _ 1))⟩
  · have HNZ : Hid ((waysEr (l.map ruleOf) (bl s)).code ≠ 0) := by show _ ≠ _; unfold waysEr; rw [HER.out, if_neg h0]; exact h0
    have HX : Hid (waysEr (l.map ruleOf) (bl s) = er) := by show _ = _; unfold waysEr; rw [HER.out, if_neg h0]
    have hz : ((er.code : Int) == 0) = false := by simpa using h0
    have hpos : (0 : Int) < er.code := by omega
    have f0 : w2.frozen? ⟨g, 0, none⟩ = false := Lib.frozen_of_heap HG2.out 0
    have f1 : w2.frozen? ⟨g, 1, none⟩ = false := Lib.frozen_of_heap HG2.out 1
    have e0 : w2.cell? ⟨g, 0, none⟩ = some (.int .i64 0) := by rw [Lib.cell_of_heap HG2.out]; rfl
    have e1 : w2.cell? ⟨g, 1, none⟩ = some (.int .i64 0) := by rw [Lib.cell_of_heap HG2.out]; rfl
    obtain ⟨s0, s1, s2⟩ := fault_store HG2.out (.int .i64 er.code) (.int .i64 (er.at?.getD (-1))) HGW.out
    have S0 := Lib.hid s0
    have S1 := Lib.hid s1
    have S2 := Lib.hid s2
    clear s0 s1 s2
    go_wp2_with fail
    go_region
    go_wp2_with fail
    exact bodyPost_ret (v := .tuple #[.slice none 0 0, .agg #[.int .i64 er.code, .int .i64 (er.at?.getD (-1))]]) (by simp [results, Tryz.results43, go_sem, S0.out, S1.out]) rfl ⟨.slice none 0 0, [], by rw [HX.out]; rfl, World.ownsRow_nil _ _ _ _, by show _ = _; rw [if_neg HNZ.out]; rfl, Nat.zero_le _, hbw2.trans (S2.out.trans (below_drewN _ _ 1))⟩
end Go.Proofs.YtomceddfbfpjjaaGreatDoor
