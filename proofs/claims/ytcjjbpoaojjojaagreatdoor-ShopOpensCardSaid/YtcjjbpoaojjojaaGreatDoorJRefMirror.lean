/- The reference's RulesFault: the contract. The reference's WaysOf: the contract. -/
import Derived.Test.YtcjjbpoaojjojaaGreatDoorJToldEtc
import Derived.Test.YtcjjbpoaojjojaaGreatDoorJMirrorUp
import Derived.Test.YtcjjbpoaojjojaaGreatDoorJRefLinkUp
import Derived.Test.YtcjjbpoaojjojaaGreatDoorJPathedEtc
import Derived.Deep.RegionHeld3
namespace Go.Proofs.YtcjjbpoaojjojaaGreatDoor
open Go Go.RowKit


/-- Between a rule's texts: no error yet, or the rule's. -/
def OneSt (ec : Nat) (f : ByteArray) (ts : List ByteArray) (q : Nat) : Prop := (ec = 0 ∧ oneE (ruleOf (f, ts)) = firstE ((ts.map bl).drop q)) ∨ (ec ≠ 0 ∧ oneE (ruleOf (f, ts)) = ec)
/-- What RulesFault hands back. -/
def RFPost (l : List RuleB) (w : World) (e : Ending) (w' : World) : Prop := e = .returned (.agg (erA (rulesEr (l.map ruleOf)))) ∧ Below w.heap.size w w'

set_option maxHeartbeats 2000000 in
set_option maxRecDepth 100000 in
theorem refRulesFault_any (v : Value) (l : List RuleB) (w : World) (hl : l.length ≤ 1000) (hs : ∀ r ∈ l, Fair r) (hv : RulesRow w v l) :
    Calls Tryz.prog 114 #[v] w (RFPost l w) := by
  obtain ⟨ao, cap, rfl, h1, h2, H3⟩ := hv
  have HM := Lib.hid H3
  have HS := Lib.hid hs
  clear H3 hs
  obtain ⟨g, hg⟩ : ∃ g, w.heap.size = g := ⟨_, rfl⟩
  obtain ⟨wg, hwg⟩ : ∃ wg, w.alloc (.cells #[.int .i64 0, .int .i64 0] 38) = wg := ⟨_, rfl⟩
  have hal : Below w.heap.size w wg := by rw [← hwg]; exact (Below.refl _ _).alloc (Nat.le_refl _) _
  have hA : wg.heap[g]? = some (.cells #[.int .i64 0, .int .i64 0] 38 (0, 0)) := by rw [← hwg, ← hg]; exact heap_alloc_new _ _
  have HGB := Lib.hid hA
  have hgl : g < wg.heap.size := (Array.getElem?_eq_some_iff.1 hA).1
  obtain ⟨B, hB⟩ : ∃ B, wg.heap.size = B := ⟨_, rfl⟩
  have hBw : B ≤ wg.heap.size := Nat.le_of_eq hB.symm
  have hwB : w.heap.size ≤ B := by rw [← hB]; exact hal.size
  have hgB : g < B := by rw [← hB]; exact hgl
  have hgw : w.heap.size ≤ g := Nat.le_of_eq hg
  have HBW := Lib.hid hal
  have HWG := Lib.hid (fun (b o : Nat) (hb : b < w.heap.size) => hal.cell (p := ⟨b, o, none⟩) hb)
  have HWA := Lib.hid hwg
  have HPA := Lib.hid hg
  clear hal hA hB hwg hg hgl
  go_enter Tryz.func114, Tryz.ntmps114
  by_cases h10 : l.length ≤ 10
  · have HXN : Hid (badAt 0 (l.map ruleOf) = none → rulesEr (l.map ruleOf) = ⟨0, none⟩) := fun h => by unfold rulesEr; rw [if_neg (by rw [List.length_map]; omega), h]
    have HXS : Hid (∀ p, badAt 0 (l.map ruleOf) = some p → rulesEr (l.map ruleOf) = ⟨p.2, some (p.1 : Int)⟩) := fun p h => by unfold rulesEr; rw [if_neg (by rw [List.length_map]; omega), h]
    have hm10 : decide (10 < l.length) = false := decide_eq_false (by omega)
    go_wp2_with fail
    rw [HWA.out, HPA.out]
    go_loopw [3] (fun i wr => ∃ k : Nat, k ≤ l.length ∧ i = .int .i64 k ∧ Hid (badAt 0 (l.map ruleOf) = badAt k ((l.map ruleOf).drop k)) ∧ Below B wg wr) (fun i _ => l.length - (intOf i).toNat)
    case atStart => exact ⟨0, Nat.zero_le _, rfl, rfl, Below.refl _ _⟩
    case round =>
      obtain ⟨k, hk, rfl, HF, hb⟩ := hrel
      by_cases hlt : k < l.length
      · obtain ⟨b, off, rfl, hbl, hcell⟩ := HM.out k hlt
        obtain ⟨d1, tv, d2, d3⟩ := hcell k hlt
        have hblB : b < B := Nat.lt_of_lt_of_le hbl hwB
        have d1 := (HWG.out b (off + k * 2) hbl).trans d1
        have d2 := (HWG.out b (off + k * 2 + 1) hbl).trans d2
        have cl1 := (hb.cell (p := ⟨b, off + k * 2, none⟩) hblB).trans d1
        have cl2 := (hb.cell (p := ⟨b, off + k * 2 + 1, none⟩) hblB).trans d2
        have HZ := Lib.hid (HS.out l[k] (List.getElem_mem hlt))
        have HDR := Lib.hid (drop_rule l k hlt)
        clear hcell
        generalize l[k] = r at cl1 d1 d3 HZ HDR
        obtain ⟨f, ts⟩ := r
        simp only at cl1 d1
        obtain ⟨ao2, cap2, rfl, g1, g2, G3⟩ := d3.parts
        have HG := Lib.hid G3
        have hfz : f.size ≤ 30000 := HZ.out.1
        have htz : ts.length ≤ 30000 := HZ.out.2.1
        clear G3 d3
        have C := Lib.hid (refBeginError_any f wr (by omega))
        go_wp2_with fail
        refine C.out.mono ?_
        clear C
        rintro e w1 ⟨rfl, hbx⟩
        have hb1 := hb.trans (hbx.mono (Nat.le_trans hBw hb.size))
        have cl3 := (hb1.cell (p := ⟨b, off + k * 2 + 1, none⟩) hblB).trans d2
        clear cl1 cl2 hbx hb
        have hle := beginE_le (bl f)
        obtain ⟨c, hc⟩ : ∃ c, beginE (bl f) = c := ⟨_, rfl⟩
        rw [hc] at hle ⊢
        have HC := Lib.hid hc
        clear hc
        cases c with
        | succ c =>
          have HEN : Hid (OneSt (c + 1) f ts 0) := .inr ⟨by omega, by unfold oneE; rw [show (ruleOf (f, ts)).1 = bl f from rfl, HC.out, if_neg (by omega)]⟩
          go_wp2_with fail
          go_loopw [4, 5] (fun ev ki wq => ∃ (q : Nat) (ec : Nat), q ≤ ts.length ∧ ki = .int .i64 q ∧ ev = .int .i64 ec ∧ Hid (OneSt ec f ts q) ∧ Below B wg wq) (fun _ i _ => ts.length + 1 - (intOf i).toNat)
          case atStart => exact ⟨0, c + 1, Nat.zero_le _, rfl, rfl, HEN, hb1⟩
          case round =>
            obtain ⟨q, ec, hq, rfl, rfl, HO, hbq⟩ := hrel
            have cl1 := (hbq.cell (p := ⟨b, off + k * 2, none⟩) hblB).trans d1
            have cl2 := (hbq.cell (p := ⟨b, off + k * 2 + 1, none⟩) hblB).trans d2
            by_cases hec : ec = 0
            · subst hec
              have HO2 : Hid (oneE (ruleOf (f, ts)) = firstE ((ts.map bl).drop q)) := by
                rcases HO.out with h | h
                · exact h.2
                · exact absurd rfl h.1
              clear HO
              by_cases hqt : q < ts.length
              · obtain ⟨b2, off2, rfl, hbl2, hcell2⟩ := HG.out q hqt
                have cl4 := (hbq.cell (p := ⟨b2, off2 + q, none⟩) (Nat.lt_of_lt_of_le hbl2 hwB)).trans ((HWG.out b2 (off2 + q) hbl2).trans (hcell2 q hqt))
                have sz := HZ.out.2.2 ts[q] (List.getElem_mem hqt)
                have HD := Lib.hid (drop_bl ts q hqt)
                clear hcell2
                generalize ts[q] = t at cl4 sz HD
                have C := Lib.hid (refBeginError_any t wr (by omega))
                go_wp2_with fail
                refine C.out.mono ?_
                clear C
                rintro e w4 ⟨rfl, hb4⟩
                have hb5 := hbq.trans (hb4.mono (Nat.le_trans hBw hbq.size))
                have HO3 : Hid (OneSt (beginE (bl t)) f ts (q + 1)) := by
                  show OneSt _ _ _ _
                  unfold OneSt
                  rw [HO2.out, HD.out, firstE]
                  by_cases h : beginE (bl t) = 0
                  · exact .inl ⟨h, by rw [if_pos h]⟩
                  · exact .inr ⟨h, by rw [if_neg h]⟩
                generalize beginE (bl t) = ec2 at HO3
                clear HO2 HD cl1 cl2 cl4
                go_wp2_with fail
                go_roundw
                case rel => exact ⟨q + 1, ec2, by omega, by go_num, rfl, HO3, hb5⟩
                case measure => simp [intOf]; omega
              · obtain rfl : q = ts.length := by omega
                have h0 : oneE (ruleOf (f, ts)) = 0 := by rw [HO2.out, drop_end]; rfl
                have HY : Hid (badAt 0 (l.map ruleOf) = badAt (k + 1) ((l.map ruleOf).drop (k + 1))) := by
                  show _ = _
                  rw [HF.out, HDR.out, badAt, if_pos h0]
                clear h0 HO2
                go_wp2_with fail
                go_roundw
                case rel => exact ⟨k + 1, by omega, by go_num, HY, hbq⟩
                case measure => simp [intOf]; omega
            · have hec1 : 0 < ec := Nat.pos_of_ne_zero hec
              have HO2 : Hid (oneE (ruleOf (f, ts)) = ec) := by
                rcases HO.out with h | h
                · exact absurd h.1 hec
                · exact h.2
              have HY : Hid (rulesEr (l.map ruleOf) = ⟨ec, some (k : Int)⟩) := by
                show _ = _
                exact HXS.out (k, ec) (by rw [HF.out, HDR.out, badAt, if_neg (by rw [HO2.out]; exact hec), HO2.out])
              have he0 : ((ec : Int) == 0) = false := by simpa using hec
              have hg0 : wr.heap[g]? = some (.cells #[.int .i64 0, .int .i64 0] 38 (0, 0)) := (hbq.block g (by omega)).trans HGB.out
              have f0 : wr.frozen? ⟨g, 0, none⟩ = false := Lib.frozen_of_heap hg0 0
              have f1 : wr.frozen? ⟨g, 1, none⟩ = false := Lib.frozen_of_heap hg0 1
              have e0 : wr.cell? ⟨g, 0, none⟩ = some (.int .i64 0) := by rw [Lib.cell_of_heap hg0]; rfl
              have e1 : wr.cell? ⟨g, 1, none⟩ = some (.int .i64 0) := by rw [Lib.cell_of_heap hg0]; rfl
              obtain ⟨s0, s1, s2⟩ := fault_store hg0 (.int .i64 ec) (.int .i64 k) hgw
              have S0 := Lib.hid s0
              have S1 := Lib.hid s1
              have S2 := Lib.hid s2
              have hbw2 : Below w.heap.size w wr := HBW.out.trans (hbq.mono hwB)
              clear hg0 s0 s1 s2 HO HO2
              go_wp2_with fail
              all_goals exact bodyPost_ret (v := .agg #[.int .i64 ec, .int .i64 k]) (by simp [results, Tryz.results114, go_sem, S0.out, S1.out]) rfl ⟨by rw [HY.out]; rfl, hbw2.trans S2.out⟩
        | zero =>
          by_cases h8 : ts.length ≤ 8
          · have hm8 : decide (8 < ts.length) = false := decide_eq_false (by omega)
            have HEN : Hid (OneSt 0 f ts 0) := .inl ⟨rfl, by unfold oneE; rw [show (ruleOf (f, ts)).1 = bl f from rfl, HC.out, if_pos rfl, if_neg (by show ¬ 8 < (ts.map bl).length; rw [List.length_map]; omega)]; rfl⟩
            go_wp2_with fail
            go_loopw [4, 5] (fun ev ki wq => ∃ (q : Nat) (ec : Nat), q ≤ ts.length ∧ ki = .int .i64 q ∧ ev = .int .i64 ec ∧ Hid (OneSt ec f ts q) ∧ Below B wg wq) (fun _ i _ => ts.length + 1 - (intOf i).toNat)
            case atStart => exact ⟨0, 0, Nat.zero_le _, rfl, rfl, HEN, hb1⟩
            case round =>
              obtain ⟨q, ec, hq, rfl, rfl, HO, hbq⟩ := hrel
              have cl1 := (hbq.cell (p := ⟨b, off + k * 2, none⟩) hblB).trans d1
              have cl2 := (hbq.cell (p := ⟨b, off + k * 2 + 1, none⟩) hblB).trans d2
              by_cases hec : ec = 0
              · subst hec
                have HO2 : Hid (oneE (ruleOf (f, ts)) = firstE ((ts.map bl).drop q)) := by
                  rcases HO.out with h | h
                  · exact h.2
                  · exact absurd rfl h.1
                clear HO
                by_cases hqt : q < ts.length
                · obtain ⟨b2, off2, rfl, hbl2, hcell2⟩ := HG.out q hqt
                  have cl4 := (hbq.cell (p := ⟨b2, off2 + q, none⟩) (Nat.lt_of_lt_of_le hbl2 hwB)).trans ((HWG.out b2 (off2 + q) hbl2).trans (hcell2 q hqt))
                  have sz := HZ.out.2.2 ts[q] (List.getElem_mem hqt)
                  have HD := Lib.hid (drop_bl ts q hqt)
                  clear hcell2
                  generalize ts[q] = t at cl4 sz HD
                  have C := Lib.hid (refBeginError_any t wr (by omega))
                  go_wp2_with fail
                  refine C.out.mono ?_
                  clear C
                  rintro e w4 ⟨rfl, hb4⟩
                  have hb5 := hbq.trans (hb4.mono (Nat.le_trans hBw hbq.size))
                  have HO3 : Hid (OneSt (beginE (bl t)) f ts (q + 1)) := by
                    show OneSt _ _ _ _
                    unfold OneSt
                    rw [HO2.out, HD.out, firstE]
                    by_cases h : beginE (bl t) = 0
                    · exact .inl ⟨h, by rw [if_pos h]⟩
                    · exact .inr ⟨h, by rw [if_neg h]⟩
                  generalize beginE (bl t) = ec2 at HO3
                  clear HO2 HD cl1 cl2 cl4
                  go_wp2_with fail
                  go_roundw
                  case rel => exact ⟨q + 1, ec2, by omega, by go_num, rfl, HO3, hb5⟩
                  case measure => simp [intOf]; omega
                · obtain rfl : q = ts.length := by omega
                  have h0 : oneE (ruleOf (f, ts)) = 0 := by rw [HO2.out, drop_end]; rfl
                  have HY : Hid (badAt 0 (l.map ruleOf) = badAt (k + 1) ((l.map ruleOf).drop (k + 1))) := by
                    show _ = _
                    rw [HF.out, HDR.out, badAt, if_pos h0]
                  clear h0 HO2
                  go_wp2_with fail
                  go_roundw
                  case rel => exact ⟨k + 1, by omega, by go_num, HY, hbq⟩
                  case measure => simp [intOf]; omega
              · have hec1 : 0 < ec := Nat.pos_of_ne_zero hec
                have HO2 : Hid (oneE (ruleOf (f, ts)) = ec) := by
                  rcases HO.out with h | h
                  · exact absurd h.1 hec
                  · exact h.2
                have HY : Hid (rulesEr (l.map ruleOf) = ⟨ec, some (k : Int)⟩) := by
                  show _ = _
                  exact HXS.out (k, ec) (by rw [HF.out, HDR.out, badAt, if_neg (by rw [HO2.out]; exact hec), HO2.out])
                have he0 : ((ec : Int) == 0) = false := by simpa using hec
                have hg0 : wr.heap[g]? = some (.cells #[.int .i64 0, .int .i64 0] 38 (0, 0)) := (hbq.block g (by omega)).trans HGB.out
                have f0 : wr.frozen? ⟨g, 0, none⟩ = false := Lib.frozen_of_heap hg0 0
                have f1 : wr.frozen? ⟨g, 1, none⟩ = false := Lib.frozen_of_heap hg0 1
                have e0 : wr.cell? ⟨g, 0, none⟩ = some (.int .i64 0) := by rw [Lib.cell_of_heap hg0]; rfl
                have e1 : wr.cell? ⟨g, 1, none⟩ = some (.int .i64 0) := by rw [Lib.cell_of_heap hg0]; rfl
                obtain ⟨s0, s1, s2⟩ := fault_store hg0 (.int .i64 ec) (.int .i64 k) hgw
                have S0 := Lib.hid s0
                have S1 := Lib.hid s1
                have S2 := Lib.hid s2
                have hbw2 : Below w.heap.size w wr := HBW.out.trans (hbq.mono hwB)
                clear hg0 s0 s1 s2 HO HO2
                go_wp2_with fail
                all_goals exact bodyPost_ret (v := .agg #[.int .i64 ec, .int .i64 k]) (by simp [results, Tryz.results114, go_sem, S0.out, S1.out]) rfl ⟨by rw [HY.out]; rfl, hbw2.trans S2.out⟩
          · have hm8 : decide ((8 : Int) < (ts.length : Int)) = true := decide_eq_true (by omega)
            have HEN : Hid (OneSt 8 f ts 0) := .inr ⟨by omega, by unfold oneE; rw [show (ruleOf (f, ts)).1 = bl f from rfl, HC.out, if_pos rfl, if_pos (by show 8 < (ts.map bl).length; rw [List.length_map]; omega)]⟩
            go_wp2_with fail
            go_loopw [4, 5] (fun ev ki wq => ∃ (q : Nat) (ec : Nat), q ≤ ts.length ∧ ki = .int .i64 q ∧ ev = .int .i64 ec ∧ Hid (OneSt ec f ts q) ∧ Below B wg wq) (fun _ i _ => ts.length + 1 - (intOf i).toNat)
            case atStart => exact ⟨0, 8, Nat.zero_le _, rfl, rfl, HEN, hb1⟩
            case round =>
              obtain ⟨q, ec, hq, rfl, rfl, HO, hbq⟩ := hrel
              have cl1 := (hbq.cell (p := ⟨b, off + k * 2, none⟩) hblB).trans d1
              have cl2 := (hbq.cell (p := ⟨b, off + k * 2 + 1, none⟩) hblB).trans d2
              by_cases hec : ec = 0
              · subst hec
                have HO2 : Hid (oneE (ruleOf (f, ts)) = firstE ((ts.map bl).drop q)) := by
                  rcases HO.out with h | h
                  · exact h.2
                  · exact absurd rfl h.1
                clear HO
                by_cases hqt : q < ts.length
                · obtain ⟨b2, off2, rfl, hbl2, hcell2⟩ := HG.out q hqt
                  have cl4 := (hbq.cell (p := ⟨b2, off2 + q, none⟩) (Nat.lt_of_lt_of_le hbl2 hwB)).trans ((HWG.out b2 (off2 + q) hbl2).trans (hcell2 q hqt))
                  have sz := HZ.out.2.2 ts[q] (List.getElem_mem hqt)
                  have HD := Lib.hid (drop_bl ts q hqt)
                  clear hcell2
                  generalize ts[q] = t at cl4 sz HD
                  have C := Lib.hid (refBeginError_any t wr (by omega))
                  go_wp2_with fail
                  refine C.out.mono ?_
                  clear C
                  rintro e w4 ⟨rfl, hb4⟩
                  have hb5 := hbq.trans (hb4.mono (Nat.le_trans hBw hbq.size))
                  have HO3 : Hid (OneSt (beginE (bl t)) f ts (q + 1)) := by
                    show OneSt _ _ _ _
                    unfold OneSt
                    rw [HO2.out, HD.out, firstE]
                    by_cases h : beginE (bl t) = 0
                    · exact .inl ⟨h, by rw [if_pos h]⟩
                    · exact .inr ⟨h, by rw [if_neg h]⟩
                  generalize beginE (bl t) = ec2 at HO3
                  clear HO2 HD cl1 cl2 cl4
                  go_wp2_with fail
                  go_roundw
                  case rel => exact ⟨q + 1, ec2, by omega, by go_num, rfl, HO3, hb5⟩
                  case measure => simp [intOf]; omega
                · obtain rfl : q = ts.length := by omega
                  have h0 : oneE (ruleOf (f, ts)) = 0 := by rw [HO2.out, drop_end]; rfl
                  have HY : Hid (badAt 0 (l.map ruleOf) = badAt (k + 1) ((l.map ruleOf).drop (k + 1))) := by
                    show _ = _
                    rw [HF.out, HDR.out, badAt, if_pos h0]
                  clear h0 HO2
                  go_wp2_with fail
                  go_roundw
                  case rel => exact ⟨k + 1, by omega, by go_num, HY, hbq⟩
                  case measure => simp [intOf]; omega
              · have hec1 : 0 < ec := Nat.pos_of_ne_zero hec
                have HO2 : Hid (oneE (ruleOf (f, ts)) = ec) := by
                  rcases HO.out with h | h
                  · exact absurd h.1 hec
                  · exact h.2
                have HY : Hid (rulesEr (l.map ruleOf) = ⟨ec, some (k : Int)⟩) := by
                  show _ = _
                  exact HXS.out (k, ec) (by rw [HF.out, HDR.out, badAt, if_neg (by rw [HO2.out]; exact hec), HO2.out])
                have he0 : ((ec : Int) == 0) = false := by simpa using hec
                have hg0 : wr.heap[g]? = some (.cells #[.int .i64 0, .int .i64 0] 38 (0, 0)) := (hbq.block g (by omega)).trans HGB.out
                have f0 : wr.frozen? ⟨g, 0, none⟩ = false := Lib.frozen_of_heap hg0 0
                have f1 : wr.frozen? ⟨g, 1, none⟩ = false := Lib.frozen_of_heap hg0 1
                have e0 : wr.cell? ⟨g, 0, none⟩ = some (.int .i64 0) := by rw [Lib.cell_of_heap hg0]; rfl
                have e1 : wr.cell? ⟨g, 1, none⟩ = some (.int .i64 0) := by rw [Lib.cell_of_heap hg0]; rfl
                obtain ⟨s0, s1, s2⟩ := fault_store hg0 (.int .i64 ec) (.int .i64 k) hgw
                have S0 := Lib.hid s0
                have S1 := Lib.hid s1
                have S2 := Lib.hid s2
                have hbw2 : Below w.heap.size w wr := HBW.out.trans (hbq.mono hwB)
                clear hg0 s0 s1 s2 HO HO2
                go_wp2_with fail
                all_goals exact bodyPost_ret (v := .agg #[.int .i64 ec, .int .i64 k]) (by simp [results, Tryz.results114, go_sem, S0.out, S1.out]) rfl ⟨by rw [HY.out]; rfl, hbw2.trans S2.out⟩
      · obtain rfl : k = l.length := by omega
        have HY : Hid (rulesEr (l.map ruleOf) = ⟨0, none⟩) := HXN.out (by rw [HF.out, drop_rules]; rfl)
        have C := Lib.hid (refFine_any wr)
        go_wp2_with fail
        refine C.out.mono ?_
        clear C
        rintro e w1 ⟨rfl, hbx⟩
        have hb1 := hb.trans (hbx.mono (Nat.le_trans hBw hb.size))
        have hg0 : w1.heap[g]? = some (.cells #[.int .i64 0, .int .i64 0] 38 (0, 0)) := (hb1.block g (by omega)).trans HGB.out
        have f0 : w1.frozen? ⟨g, 0, none⟩ = false := Lib.frozen_of_heap hg0 0
        have f1 : w1.frozen? ⟨g, 1, none⟩ = false := Lib.frozen_of_heap hg0 1
        have e0 : w1.cell? ⟨g, 0, none⟩ = some (.int .i64 0) := by rw [Lib.cell_of_heap hg0]; rfl
        have e1 : w1.cell? ⟨g, 1, none⟩ = some (.int .i64 0) := by rw [Lib.cell_of_heap hg0]; rfl
        obtain ⟨s0, s1, s2⟩ := fault_store hg0 (.int .i64 0) (.int .i64 (-1)) hgw
        have S0 := Lib.hid s0
        have S1 := Lib.hid s1
        have S2 := Lib.hid s2
        have hbw2 : Below w.heap.size w w1 := HBW.out.trans (hb1.mono hwB)
        clear hg0 s0 s1 s2
        go_wp2_with fail
        exact bodyPost_ret (v := .agg #[.int .i64 0, .int .i64 (-1)]) (by simp [results, Tryz.results114, go_sem, S0.out, S1.out]) rfl ⟨by rw [HY.out]; rfl, hbw2.trans S2.out⟩
  · have HX : Hid (rulesEr (l.map ruleOf) = ⟨8, none⟩) := by show _ = _; unfold rulesEr; rw [if_pos (by rw [List.length_map]; omega)]
    have C := Lib.hid (refBare_any 8 wg)
    have hm10 : decide (10 < l.length) = true := decide_eq_true (by omega)
    go_wp2_with fail
    rw [HWA.out, HPA.out]
    refine C.out.mono ?_
    clear C
    rintro e w1 ⟨rfl, hbx⟩
    have hg0 : w1.heap[g]? = some (.cells #[.int .i64 0, .int .i64 0] 38 (0, 0)) := (hbx.block g (by omega)).trans HGB.out
    have f0 : w1.frozen? ⟨g, 0, none⟩ = false := Lib.frozen_of_heap hg0 0
    have f1 : w1.frozen? ⟨g, 1, none⟩ = false := Lib.frozen_of_heap hg0 1
    have e0 : w1.cell? ⟨g, 0, none⟩ = some (.int .i64 0) := by rw [Lib.cell_of_heap hg0]; rfl
    have e1 : w1.cell? ⟨g, 1, none⟩ = some (.int .i64 0) := by rw [Lib.cell_of_heap hg0]; rfl
    obtain ⟨s0, s1, s2⟩ := fault_store hg0 (.int .i64 8) (.int .i64 (-1)) hgw
    have S0 := Lib.hid s0
    have S1 := Lib.hid s1
    have S2 := Lib.hid s2
    have hbw2 : Below w.heap.size w w1 := HBW.out.trans (hbx.mono (Nat.le_trans hwB hBw))
    clear hg0 s0 s1 s2
    go_wp2_with fail
    exact bodyPost_ret (v := .agg #[.int .i64 8, .int .i64 (-1)]) (by simp [results, Tryz.results114, go_sem, S0.out, S1.out]) rfl ⟨by rw [HX.out]; rfl, hbw2.trans S2.out⟩
end Go.Proofs.YtcjjbpoaojjojaaGreatDoor

namespace Go.Proofs.YtcjjbpoaojjojaaGreatDoor
open Go Go.RowKit

end Go.Proofs.YtcjjbpoaojjojaaGreatDoor
