/- The reference's PackText: the contract. The reference's PackOf: the contract. The reference's TreeSum: the contract. -/
import Derived.Test.YtcjjbpoaojjojaaGreatDoorJPackedUpEtc
import Derived.Test.YtcjjbpoaojjojaaGreatDoorJToldEtc
import Derived.Test.YtcjjbpoaojjojaaGreatDoorJRowedEtc
import Derived.Test.YtcjjbpoaojjojaaGreatDoorJRefTree
import Derived.Test.YtcjjbpoaojjojaaGreatDoorJSummed
namespace Go.Proofs.YtcjjbpoaojjojaaGreatDoor
open Go Go.RowKit

def PTextPost (l : List FileB) (w : World) (e : Ending) (w' : World) : Prop := (∃ t : ByteArray, e = .returned (.string t) ∧ Hid (bl t = packL l)) ∧ Below w.heap.size w w'
theorem reftext_bl (s : ByteArray) (f : FileB) (t m : ByteArray) (r : Bool) (hr : f.run = r) (hm : bl m = [32, modeB r, 32]) (ht : bl t = Lib.decDigits f.text.size) :
    bl (s ++ f.path ++ m ++ t ++ { data := #[10] } ++ f.text ++ { data := #[10] }) = bl s ++ packOne f := by
  simp only [bl_append, hm, ht, packOne, hr]
  rw [show bl { data := #[10] } = [10] from rfl]
  simp

theorem size_of_bl {x : ByteArray} {L : List UInt8} {n : Nat} (h : bl x = L) (hl : L.length ≤ n) : x.size ≤ n := by rw [← bl_length, h]; exact hl

set_option maxHeartbeats 4000000 in
set_option maxRecDepth 100000 in
theorem refPackText_any (v : Value) (l : List FileB) (w : World) (hv : FRow w v l) (hl : l.length ≤ 10000) (hS : ∀ f ∈ l, SmallF f) :
    Calls Tryz.prog 132 #[v] w (PTextPost l w) := by
  obtain ⟨ao, cap, rfl, h1, h2, H3⟩ := hv
  have HM := Lib.hid H3
  have HSM := Lib.hid hS
  clear H3 hS
  go_enter Tryz.func132, Tryz.ntmps132
  go_wp2_with fail
  go_loopw [3, 4] (fun sv i wr => ∃ (k : Nat) (s : ByteArray), k ≤ l.length ∧ i = .int .i64 k ∧ sv = .string s ∧ Hid (bl s = packL (l.take k)) ∧ s.size ≤ 132000 * k ∧ Below w.heap.size w wr) (fun _ i _ => l.length - (intOf i).toNat)
  case atStart => exact ⟨0, ⟨#[]⟩, Nat.zero_le _, rfl, rfl, rfl, Nat.zero_le _, Below.refl _ _⟩
  case round =>
    obtain ⟨k, s, hk, rfl, rfl, HAC, hlen, hb⟩ := hrel
    by_cases hlt : k < l.length
    · obtain ⟨b, off, rfl, hbl, hcell⟩ := HM.out k hlt
      obtain ⟨q0, q1, q2⟩ := hcell k hlt
      rw [← hb.cell (p := ⟨b, off + k * 3, none⟩) hbl] at q0
      rw [← hb.cell (p := ⟨b, off + k * 3 + 1, none⟩) hbl] at q1
      rw [← hb.cell (p := ⟨b, off + k * 3 + 2, none⟩) hbl] at q2
      have sz := HSM.out l[k] (List.getElem_mem hlt)
      have HTK : Hid (bl s ++ packOne l[k] = packL (l.take (k + 1))) := by show _ = _; rw [packL_take hlt, HAC.out]
      have hpl : (packOne l[k]).length ≤ 132000 := packOne_len _ sz.1 sz.2
      clear hcell HAC
      obtain ⟨f, hf⟩ : ∃ f, l[k] = f := ⟨_, rfl⟩
      rw [hf] at q0 q1 q2 sz HTK hpl
      clear hf
      obtain ⟨r, hr⟩ : ∃ r, f.run = r := ⟨_, rfl⟩
      rw [hr] at q1
      have HR := Lib.hid hr
      clear hr
      have sz1 := sz.1
      have sz2 := sz.2
      have hkk : k ≤ 10000 := by omega
      have hss : s.size ≤ 1320000000 := by omega
      have hblr := Nat.lt_of_lt_of_le hbl hb.size
      clear sz
      cases r
      all_goals
        go_wp2_with fail
        have b0 : wr.drew.cell? ⟨b, off + k * 3, none⟩ = some (.string f.path) := q0
        have b2 : wr.drew.cell? ⟨b, off + k * 3 + 2, none⟩ = some (.string f.text) := q2
        have n1 : ¬ 9223372036854775807 < s.size + f.path.size := by omega
        have n2 : ¬ 9223372036854775807 < s.size + f.path.size + 3 := by omega
        go_region_held3 (fun W : World => W.cell? ⟨b, off + k * 3, none⟩ = some (.string f.path) ∧ W.cell? ⟨b, off + k * 3 + 2, none⟩ = some (.string f.text)) (first | exact ⟨y0, y2⟩ | exact ⟨b0, b2⟩)
          (first
            | (go_at_call 31; refine (decimal_any f.text.size (by omega) _).mono ?_; rintro e w2 ⟨t, rfl, HTX, hts, hb2⟩; have n4 : ¬ 9223372036854775807 < s.size + f.path.size + 3 + t.size := by omega
               have n5 : ¬ 9223372036854775807 < s.size + f.path.size + 3 + t.size + 1 := by omega
               have n6 : ¬ 9223372036854775807 < s.size + f.path.size + 3 + t.size + 1 + f.text.size := by omega
               have n7 : ¬ 9223372036854775807 < s.size + f.path.size + 3 + t.size + 1 + f.text.size + 1 := by omega
               have y0 := (hb2.cell (p := ⟨b, off + k * 3, none⟩) hblr).trans b0; have y2 := (hb2.cell (p := ⟨b, off + k * 3 + 2, none⟩) hblr).trans b2))
        clear n1 n2 n4 n5 n6 n7 y0 y2 b0 b2 q0 q1 q2
        try clear hHeld
        have hbf : Below w.heap.size w w2 := (hb.trans (below_drewN _ _ 1)).trans (hb2.mono hb.size)
        have HX := Lib.hid (fun m hm => reftext_bl s f t m _ HR.out hm HTX.out)
        have HBF := Lib.hid hbf
        clear hbf hb2 HTX
        go_wp2_with fail
        go_roundw
        case rel =>
          refine ⟨k + 1, _, by omega, by go_num, rfl, ?_, ?_, HBF.out⟩
          · show _ = _; rw [← HTK.out]; exact HX.out _ rfl
          · exact size_of_bl (HX.out _ rfl) (by rw [List.length_append, bl_length]; omega)
        case measure => simp [intOf]; omega
    · obtain rfl : k = l.length := by omega
      have HE2 : Hid (bl s = packL l) := by show _ = _; rw [HAC.out, List.take_length]
      clear HAC
      go_wp2_with fail
      go_ret
      exact ⟨⟨s, rfl, HE2⟩, hb⟩
end Go.Proofs.YtcjjbpoaojjojaaGreatDoor

namespace Go.Proofs.YtcjjbpoaojjojaaGreatDoor
open Go Go.RowKit

def POfPost (l : List FileB) (w : World) (e : Ending) (w' : World) : Prop := (∃ t : ByteArray, e = .returned (.tuple #[.string t, .agg (erA (treeEr l))]) ∧ Hid (bl t = packT l)) ∧ Below w.heap.size w w'

theorem packOf_end {w2 w3 : World} {q g gw : Nat} {c a : Int} (hb : Below w2.heap.size w2.drew w3) (hq : w2.heap[q]? = some (.cells #[.int .i64 c, .int .i64 a] 38 (0, 0))) (hg : w2.heap[g]? = some (.cells #[.int .i64 0, .int .i64 0] 38 (0, 0))) (hgw : gw ≤ g) :
    w3.cell? ⟨q, 0, none⟩ = some (.int .i64 c) ∧ w3.cell? ⟨q, 1, none⟩ = some (.int .i64 a) ∧ w3.frozen? ⟨g, 0, none⟩ = false ∧ w3.frozen? ⟨g, 1, none⟩ = false ∧ w3.cell? ⟨g, 0, none⟩ = some (.int .i64 0) ∧ w3.cell? ⟨g, 1, none⟩ = some (.int .i64 0) ∧
      Hid (((w3.setCell ⟨g, 0, none⟩ (.int .i64 c)).setCell ⟨g, 1, none⟩ (.int .i64 a)).cell? ⟨g, 0, none⟩ = some (.int .i64 c) ∧ ((w3.setCell ⟨g, 0, none⟩ (.int .i64 c)).setCell ⟨g, 1, none⟩ (.int .i64 a)).cell? ⟨g, 1, none⟩ = some (.int .i64 a) ∧ Below gw w3 ((w3.setCell ⟨g, 0, none⟩ (.int .i64 c)).setCell ⟨g, 1, none⟩ (.int .i64 a))) := by
  have hq3 : w3.heap[q]? = some (.cells #[.int .i64 c, .int .i64 a] 38 (0, 0)) := (hb.block q (Array.getElem?_eq_some_iff.1 hq).1).trans hq
  have hg3 : w3.heap[g]? = some (.cells #[.int .i64 0, .int .i64 0] 38 (0, 0)) := (hb.block g (Array.getElem?_eq_some_iff.1 hg).1).trans hg
  exact ⟨by rw [Lib.cell_of_heap hq3]; rfl, by rw [Lib.cell_of_heap hq3]; rfl, Lib.frozen_of_heap hg3 0, Lib.frozen_of_heap hg3 1, by rw [Lib.cell_of_heap hg3]; rfl, by rw [Lib.cell_of_heap hg3]; rfl, fault_store hg3 (.int .i64 c) (.int .i64 a) hgw⟩

set_option maxHeartbeats 2000000 in
set_option maxRecDepth 100000 in
theorem refPackOf_any (v : Value) (l : List FileB) (w : World) (hv : FRow w v l) (hl : l.length ≤ 10000) (hS : ∀ f ∈ l, SmallF f) :
    Calls Tryz.prog 230 #[v] w (POfPost l w) := by
  obtain ⟨g, hg⟩ : ∃ g, w.heap.size = g := ⟨_, rfl⟩
  obtain ⟨wg, hwg⟩ : ∃ wg, w.alloc (.cells #[.int .i64 0, .int .i64 0] 38) = wg := ⟨_, rfl⟩
  have hal : Below w.heap.size w wg := by rw [← hwg]; exact (Below.refl _ _).alloc (Nat.le_refl _) _
  have hA : wg.heap[g]? = some (.cells #[.int .i64 0, .int .i64 0] 38 (0, 0)) := by rw [← hwg, ← hg]; exact heap_alloc_new _ _
  have HGB := Lib.hid hA
  have hgl : g < wg.heap.size := (Array.getElem?_eq_some_iff.1 hA).1
  have hgw : w.heap.size ≤ g := Nat.le_of_eq hg
  have HBW := Lib.hid hal
  have HWA := Lib.hid hwg
  have HPA := Lib.hid hg
  have HV := Lib.hid hv
  have HS := Lib.hid hS
  have C := Lib.hid (refTreeFault_any v l wg (hv.ext hal) hl hS)
  obtain ⟨ao, cap, rfl, h1, h2, H3⟩ := hv
  clear H3 hal hA hwg hg hS
  go_enter Tryz.func230, Tryz.ntmps230
  go_wp2_with fail
  rw [HWA.out, HPA.out]
  refine C.out.mono ?_
  clear C
  rintro e w1 ⟨rfl, hb1⟩
  have hbw1 : Below w.heap.size w w1 := HBW.out.trans (hb1.mono HBW.out.size)
  have hg1 : w1.heap[g]? = some (.cells #[.int .i64 0, .int .i64 0] 38 (0, 0)) := (hb1.block g hgl).trans HGB.out
  obtain ⟨er, her⟩ : ∃ er, treeEr l = er := ⟨_, rfl⟩
  have HER := Lib.hid her
  rw [her]
  unfold erA
  obtain ⟨c, hc⟩ : ∃ c : Int, (er.code : Int) = c := ⟨_, rfl⟩
  have hc0 : 0 ≤ c := by omega
  obtain ⟨a, ha⟩ : ∃ a : Int, er.at?.getD (-1) = a := ⟨_, rfl⟩
  rw [hc, ha]
  have HEA : Hid (erA (treeEr l) = #[.int .i64 c, .int .i64 a]) := by show _ = _; rw [her]; unfold erA; rw [hc, ha]
  have HTC : Hid (((treeEr l).code : Int) = c) := by show _ = _; rw [her, hc]
  clear her hc ha
  obtain ⟨q, hq⟩ : ∃ q, w1.heap.size = q := ⟨_, rfl⟩
  obtain ⟨w2, hw2⟩ : ∃ w2, w1.alloc (.cells #[.int .i64 c, .int .i64 a] 38) = w2 := ⟨_, rfl⟩
  have hal2 : Below w1.heap.size w1 w2 := by rw [← hw2]; exact (Below.refl _ _).alloc (Nat.le_refl _) _
  have hA2 : w2.heap[q]? = some (.cells #[.int .i64 c, .int .i64 a] 38 (0, 0)) := by rw [← hw2, ← hq]; exact heap_alloc_new _ _
  have hg2 : w2.heap[g]? = some (.cells #[.int .i64 0, .int .i64 0] 38 (0, 0)) := (hal2.block g (Array.getElem?_eq_some_iff.1 hg1).1).trans hg1
  have hbw2 : Below w.heap.size w w2 := hbw1.trans (hal2.mono hbw1.size)
  have HW2 := Lib.hid hw2
  have HQ := Lib.hid hq
  clear hw2 hq hal2 hg1 hb1 hbw1
  rcases Int.lt_or_eq_of_le hc0 with hpos | rfl
  case inr =>
    have HPT : Hid (packT l = packL l) := by show _ = _; unfold packT; rw [if_pos (by have := HTC.out; omega)]
    have C := Lib.hid (refPackText_any _ l w2.drew ((HV.out.ext hbw2).ext (below_drewN _ _ 1)) hl HS.out)
    have c0 : w2.cell? ⟨q, 0, none⟩ = some (.int .i64 0) := by rw [Lib.cell_of_heap hA2]; rfl
    have c1 : w2.cell? ⟨q, 1, none⟩ = some (.int .i64 a) := by rw [Lib.cell_of_heap hA2]; rfl
    have HA2 := Lib.hid hA2
    have HG2 := Lib.hid hg2
    clear hA2 hg2
    go_wp2_with fail
    rw [HW2.out, HQ.out]
    have z0 : w2.drew.cell? ⟨q, 0, none⟩ = some (.int .i64 0) := c0
    have z1 : w2.drew.cell? ⟨q, 1, none⟩ = some (.int .i64 a) := c1
    go_region_with (go_at_call 132; refine C.out.mono ?_; clear C; rintro e w3 ⟨⟨t, rfl, HT⟩, hb3⟩; obtain ⟨d0, d1, f0, f1, e0, e1, HHH⟩ := packOf_end (hb3.mono (Nat.le_refl w2.heap.size)) HA2.out HG2.out hgw)
    all_goals
      have hbw3 : Below w.heap.size w w3 := hbw2.trans ((below_drewN _ _ 1).trans (hb3.mono hbw2.size))
      have S0 := Lib.hid HHH.out.1
      have S1 := Lib.hid HHH.out.2.1
      have S2 := Lib.hid HHH.out.2.2
      clear HHH
      go_wp2_with fail
      exact bodyPost_ret (v := .tuple #[.string t, .agg #[.int .i64 0, .int .i64 a]]) (by simp [results, Tryz.results230, go_sem, S0.out, S1.out]) rfl ⟨⟨t, by rw [HEA.out], by show _ = _; rw [HPT.out]; exact HT.out⟩, hbw3.trans S2.out⟩
  case inl =>
    have HPT : Hid (packT l = []) := by show _ = _; unfold packT; rw [if_neg (by have := HTC.out; omega)]
    have d0 : w2.cell? ⟨q, 0, none⟩ = some (.int .i64 c) := by rw [Lib.cell_of_heap hA2]; rfl
    have d1 : w2.cell? ⟨q, 1, none⟩ = some (.int .i64 a) := by rw [Lib.cell_of_heap hA2]; rfl
    have f0 : w2.frozen? ⟨g, 0, none⟩ = false := Lib.frozen_of_heap hg2 0
    have f1 : w2.frozen? ⟨g, 1, none⟩ = false := Lib.frozen_of_heap hg2 1
    have e0 : w2.cell? ⟨g, 0, none⟩ = some (.int .i64 0) := by rw [Lib.cell_of_heap hg2]; rfl
    have e1 : w2.cell? ⟨g, 1, none⟩ = some (.int .i64 0) := by rw [Lib.cell_of_heap hg2]; rfl
    obtain ⟨s0, s1, s2⟩ := fault_store hg2 (.int .i64 c) (.int .i64 a) hgw
    have S0 := Lib.hid s0
    have S1 := Lib.hid s1
    have S2 := Lib.hid s2
    clear hg2 hA2 s0 s1 s2
    go_wp2_with fail
    rw [HW2.out, HQ.out]
    go_region
    all_goals
      go_wp2_with fail
      exact bodyPost_ret (v := .tuple #[.string ⟨#[]⟩, .agg #[.int .i64 c, .int .i64 a]]) (by simp [results, Tryz.results230, go_sem, S0.out, S1.out]) rfl ⟨⟨_, by rw [HEA.out], by show _ = _; rw [HPT.out]; rfl⟩, (hbw2.trans S2.out).drew⟩
end Go.Proofs.YtcjjbpoaojjojaaGreatDoor

namespace Go.Proofs.YtcjjbpoaojjojaaGreatDoor
open Go Go.RowKit

def RSumPost (l : List FileB) (w : World) (e : Ending) (w' : World) : Prop := e = .returned (.tuple #[.int .i64 (sumL (packT l) : Nat), .agg (erA (treeEr l))]) ∧ Below w.heap.size w w'

theorem refSumOf_below (s : ByteArray) (w : World) (hs : s.size ≤ 9223372036854775807) :
    Calls Tryz.prog 231 #[.string s] w fun e w' => e = .returned (.int .i64 (sumL (bl s) : Nat)) ∧ Below w.heap.size w w' := by
  refine (refSumOf_any s w hs).mono ?_
  rintro e w' ⟨rfl, rfl⟩
  exact ⟨rfl, Below.refl _ _⟩

set_option maxHeartbeats 2000000 in
set_option maxRecDepth 100000 in
theorem refTreeSum_any (v : Value) (l : List FileB) (w : World) (hv : FRow w v l) (hl : l.length ≤ 10000) (hS : ∀ f ∈ l, SmallF f) :
    Calls Tryz.prog 181 #[v] w (RSumPost l w) := by
  obtain ⟨g, hg⟩ : ∃ g, w.heap.size = g := ⟨_, rfl⟩
  obtain ⟨wg, hwg⟩ : ∃ wg, w.alloc (.cells #[.int .i64 0, .int .i64 0] 38) = wg := ⟨_, rfl⟩
  have hal : Below w.heap.size w wg := by rw [← hwg]; exact (Below.refl _ _).alloc (Nat.le_refl _) _
  have hA : wg.heap[g]? = some (.cells #[.int .i64 0, .int .i64 0] 38 (0, 0)) := by rw [← hwg, ← hg]; exact heap_alloc_new _ _
  have HGB := Lib.hid hA
  have hgl : g < wg.heap.size := (Array.getElem?_eq_some_iff.1 hA).1
  have hgw : w.heap.size ≤ g := Nat.le_of_eq hg
  have HBW := Lib.hid hal
  have HWA := Lib.hid hwg
  have HPA := Lib.hid hg
  have HV := Lib.hid hv
  have HS := Lib.hid hS
  have C := Lib.hid (refPackOf_any v l wg (hv.ext hal) hl hS)
  have HLN := Lib.hid (packT_len l hS)
  obtain ⟨ao, cap, rfl, h1, h2, H3⟩ := hv
  clear H3 hal hA hwg hg hS
  go_enter Tryz.func181, Tryz.ntmps181
  go_wp2_with fail
  rw [HWA.out, HPA.out]
  refine C.out.mono ?_
  clear C
  rintro e w1 ⟨⟨t, rfl, HT⟩, hb1⟩
  have hts : t.size ≤ 1320000000 := by rw [← bl_length, HT.out]; have := HLN.out; omega
  have hbw1 : Below w.heap.size w w1 := HBW.out.trans (hb1.mono HBW.out.size)
  have hg1 : w1.heap[g]? = some (.cells #[.int .i64 0, .int .i64 0] 38 (0, 0)) := (hb1.block g hgl).trans HGB.out
  obtain ⟨er, her⟩ : ∃ er, treeEr l = er := ⟨_, rfl⟩
  have HER := Lib.hid her
  rw [her]
  unfold erA
  obtain ⟨c, hc⟩ : ∃ c : Int, (er.code : Int) = c := ⟨_, rfl⟩
  have hc0 : 0 ≤ c := by omega
  obtain ⟨a, ha⟩ : ∃ a : Int, er.at?.getD (-1) = a := ⟨_, rfl⟩
  rw [hc, ha]
  have HEA : Hid (erA (treeEr l) = #[.int .i64 c, .int .i64 a]) := by show _ = _; rw [her]; unfold erA; rw [hc, ha]
  have HTC : Hid (((treeEr l).code : Int) = c) := by show _ = _; rw [her, hc]
  clear her hc ha
  obtain ⟨q, hq⟩ : ∃ q, w1.heap.size = q := ⟨_, rfl⟩
  obtain ⟨w2, hw2⟩ : ∃ w2, w1.alloc (.cells #[.int .i64 c, .int .i64 a] 38) = w2 := ⟨_, rfl⟩
  have hal2 : Below w1.heap.size w1 w2 := by rw [← hw2]; exact (Below.refl _ _).alloc (Nat.le_refl _) _
  have hA2 : w2.heap[q]? = some (.cells #[.int .i64 c, .int .i64 a] 38 (0, 0)) := by rw [← hw2, ← hq]; exact heap_alloc_new _ _
  have hg2 : w2.heap[g]? = some (.cells #[.int .i64 0, .int .i64 0] 38 (0, 0)) := (hal2.block g (Array.getElem?_eq_some_iff.1 hg1).1).trans hg1
  have hbw2 : Below w.heap.size w w2 := hbw1.trans (hal2.mono hbw1.size)
  have HW2 := Lib.hid hw2
  have HQ := Lib.hid hq
  clear hw2 hq hal2 hg1 hb1 hbw1
  rcases Int.lt_or_eq_of_le hc0 with hpos | rfl
  case inr =>
    have C := Lib.hid (refSumOf_below t w2.drew (by omega))
    have c0 : w2.cell? ⟨q, 0, none⟩ = some (.int .i64 0) := by rw [Lib.cell_of_heap hA2]; rfl
    have c1 : w2.cell? ⟨q, 1, none⟩ = some (.int .i64 a) := by rw [Lib.cell_of_heap hA2]; rfl
    have HA2 := Lib.hid hA2
    have HG2 := Lib.hid hg2
    clear hA2 hg2
    go_wp2_with fail
    rw [HW2.out, HQ.out]
    have z0 : w2.drew.cell? ⟨q, 0, none⟩ = some (.int .i64 0) := c0
    have z1 : w2.drew.cell? ⟨q, 1, none⟩ = some (.int .i64 a) := c1
    go_region_with (go_at_call 231; refine C.out.mono ?_; clear C; rintro e w3 ⟨rfl, hb3⟩; obtain ⟨d0, d1, f0, f1, e0, e1, HHH⟩ := packOf_end (hb3.mono (Nat.le_refl w2.heap.size)) HA2.out HG2.out hgw)
    all_goals
      have hbw3 : Below w.heap.size w w3 := hbw2.trans ((below_drewN _ _ 1).trans (hb3.mono hbw2.size))
      have S0 := Lib.hid HHH.out.1
      have S1 := Lib.hid HHH.out.2.1
      have S2 := Lib.hid HHH.out.2.2
      clear HHH
      go_wp2_with fail
      exact bodyPost_ret (v := .tuple #[.int .i64 (sumL (bl t) : Nat), .agg #[.int .i64 0, .int .i64 a]]) (by simp [results, Tryz.results181, go_sem, S0.out, S1.out]) rfl ⟨by rw [HEA.out, HT.out], hbw3.trans S2.out⟩
  case inl =>
    have HPT : Hid (packT l = []) := by show _ = _; unfold packT; rw [if_neg (by have := HTC.out; omega)]
    have d0 : w2.cell? ⟨q, 0, none⟩ = some (.int .i64 c) := by rw [Lib.cell_of_heap hA2]; rfl
    have d1 : w2.cell? ⟨q, 1, none⟩ = some (.int .i64 a) := by rw [Lib.cell_of_heap hA2]; rfl
    have f0 : w2.frozen? ⟨g, 0, none⟩ = false := Lib.frozen_of_heap hg2 0
    have f1 : w2.frozen? ⟨g, 1, none⟩ = false := Lib.frozen_of_heap hg2 1
    have e0 : w2.cell? ⟨g, 0, none⟩ = some (.int .i64 0) := by rw [Lib.cell_of_heap hg2]; rfl
    have e1 : w2.cell? ⟨g, 1, none⟩ = some (.int .i64 0) := by rw [Lib.cell_of_heap hg2]; rfl
    obtain ⟨s0, s1, s2⟩ := fault_store hg2 (.int .i64 c) (.int .i64 a) hgw
    have S0 := Lib.hid s0
    have S1 := Lib.hid s1
    have S2 := Lib.hid s2
    clear hg2 hA2 s0 s1 s2
    go_wp2_with fail
    rw [HW2.out, HQ.out]
    go_region
    all_goals
      go_wp2_with fail
      exact bodyPost_ret (v := .tuple #[.int .i64 0, .agg #[.int .i64 c, .int .i64 a]]) (by simp [results, Tryz.results181, go_sem, S0.out, S1.out]) rfl ⟨by rw [HEA.out, HPT.out]; rfl, (hbw2.trans S2.out).drew⟩
end Go.Proofs.YtcjjbpoaojjojaaGreatDoor
