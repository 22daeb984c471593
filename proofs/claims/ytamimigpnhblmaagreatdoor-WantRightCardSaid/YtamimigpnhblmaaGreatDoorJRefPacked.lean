/- The reference's PackText: the contract. The reference's PackOf: the contract. The reference's TreeSum: the contract. -/
import Derived.Test.YtamimigpnhblmaaGreatDoorJPackedUp
import Derived.Test.YtamimigpnhblmaaGreatDoorJTreed
import Derived.Test.YtamimigpnhblmaaGreatDoorJTexts
import Derived.Test.YtamimigpnhblmaaGreatDoorJRefTree
import Derived.Test.YtamimigpnhblmaaGreatDoorJSummed
namespace Go.Proofs.YtamimigpnhblmaaGreatDoor
open Go Go.RowKit

def PTextPost (l : List FileB) (w : World) (e : Ending) (w' : World) : Prop := (∃ t : ByteArray, e = .returned (.string t) ∧ Hid (bl t = packL l)) ∧ Below w.heap.size w w'
theorem reftext_bl (s : ByteArray) (f : FileB) (t m : ByteArray) (r : Bool) (hr : f.run = r) (hm : bl m = [32, modeB r, 32]) (ht : bl t = Lib.decDigits f.text.size) :
    bl (s ++ f.path ++ m ++ t ++ { data := #[10] } ++ f.text ++ { data := #[10] }) = bl s ++ packOne f := by
  simp only [bl_append, hm, ht, packOne, hr]
  rw [show bl { data := #[10] } = [10] from rfl]
  simp

theorem size_of_bl {x : ByteArray} {L : List UInt8} {n : Nat} (h : bl x = L) (hl : L.length ≤ n) : x.size ≤ n := by rw [← bl_length, h]; exact hl

set_option maxHeartbeats 4000000 in
set_option maxRecDepth 100000 in
theorem refPackText_any (v : Value) (l : List FileB) (w : World) (hv : FRow w v l) (hl : l.length ≤ 10000) (hS : ∀ f ∈ l, SmallF f) :
    Calls Tryz.prog 90 #[v] w (PTextPost l w) := by
  obtain ⟨ao, cap, rfl, h1, h2, H3⟩ := hv
  have HM := Lib.hid H3
  have HSM := Lib.hid hS
  clear H3 hS
  go_enter Tryz.func90, Tryz.ntmps90
  go_wp2_with fail
  go_loopw [3, 4] (fun sv i wr => ∃ (k : Nat) (s : ByteArray), k ≤ l.length ∧ i = .int .i64 k ∧ sv = .string s ∧ Hid (bl s = packL (l.take k)) ∧ s.size ≤ 132000 * k ∧ Below w.heap.size w wr) (fun _ i _ => l.length - (intOf i).toNat)
  case atStart => exact ⟨0, ⟨#[]⟩, Nat.zero_le _, rfl, rfl, rfl, Nat.zero_le _, Below.refl _ _⟩
  case round =>
    obtain ⟨k, s, hk, rfl, rfl, HAC, hlen, hb⟩ := hrel
    by_cases hlt : k < l.length
    · obtain ⟨b, off, rfl, hbl, hcell⟩ := HM.out k hlt
      obtain ⟨q0, q1, q2⟩ := hcell k hlt
      rw [← hb.cell (p := ⟨b, off + k * 3, none⟩) hbl] at q0
      rw [← hb.cell (p := ⟨b, off + k * 3 + 1, none⟩) hbl] at q1
      rw [← hb.cell (p := ⟨b, off + k * 3 + 2, none⟩) hbl] at q2
      have sz := HSM.out l[k] (List.getElem_mem hlt)
      have HTK : Hid (bl s ++ packOne l[k] = packL (l.take (k + 1))) := by show _ = _; rw [packL_take hlt, HAC.out]
      have hpl : (packOne l[k]).length ≤ 132000 := packOne_len _ sz.1 sz.2
      clear hcell HAC
      obtain ⟨f, hf⟩ : ∃ f, l[k] = f := ⟨_, rfl⟩
      rw [hf] at q0 q1 q2 sz HTK hpl
      clear hf
      obtain ⟨r, hr⟩ : ∃ r, f.run = r := ⟨_, rfl⟩
      rw [hr] at q1
      have HR := Lib.hid hr
      clear hr
      have sz1 := sz.1
      have sz2 := sz.2
      have hkk : k ≤ 10000 := by omega
      have hss : s.size ≤ 1320000000 := by omega
      have hblr := Nat.lt_of_lt_of_le hbl hb.size
      clear sz
      cases r
      all_goals
        go_wp2_with fail
        have b0 : wr.drew.cell? ⟨b, off + k * 3, none⟩ = some (.string f.path) := q0
        have b2 : wr.drew.cell? ⟨b, off + k * 3 + 2, none⟩ = some (.string f.text) := q2
        have n1 : ¬ 9223372036854775807 < s.size + f.path.size := by omega
        have n2 : ¬ 9223372036854775807 < s.size + f.path.size + 3 := by omega
        go_region_held3 (fun W : World => W.cell? ⟨b, off + k * 3, none⟩ = some (.string f.path) ∧ W.cell? ⟨b, off + k * 3 + 2, none⟩ = some (.string f.text)) (first | exact ⟨y0, y2⟩ | exact ⟨b0, b2⟩)
          (first
            | (go_at_call 78; refine (decimal_any f.text.size (by omega) _).mono ?_; rintro e w2 ⟨t, rfl, HTX, hts, hb2⟩; have n4 : ¬ 9223372036854775807 < s.size + f.path.size + 3 + t.size := by omega
               have n5 : ¬ 9223372036854775807 < s.size + f.path.size + 3 + t.size + 1 := by omega
               have n6 : ¬ 9223372036854775807 < s.size + f.path.size + 3 + t.size + 1 + f.text.size := by omega
               have n7 : ¬ 9223372036854775807 < s.size + f.path.size + 3 + t.size + 1 + f.text.size + 1 := by omega
               have y0 := (hb2.cell (p := ⟨b, off + k * 3, none⟩) hblr).trans b0; have y2 := (hb2.cell (p := ⟨b, off + k * 3 + 2, none⟩) hblr).trans b2))
        clear n1 n2 n4 n5 n6 n7 y0 y2 b0 b2 q0 q1 q2
        try clear hHeld
        have hbf : Below w.heap.size w w2 := (hb.trans (below_drewN _ _ 1)).trans (hb2.mono hb.size)
        have HX := Lib.hid (fun m hm => reftext_bl s f t m _ HR.out hm HTX.out)
        have HBF := Lib.hid hbf
        clear hbf hb2 HTX
        go_wp2_with fail
        go_roundw
        case rel =>
          refine ⟨k + 1, _, by omega, by go_num, rfl, ?_, ?_, HBF.out⟩
          · show _ = _; rw [← HTK.out]; exact HX.out _ rfl
          · exact size_of_bl (HX.out _ rfl) (by rw [List.length_append, bl_length]; omega)
        case measure => simp [intOf]; omega
    · obtain rfl : k = l.length := by omega
      have HE2 : Hid (bl s = packL l) := by show _ = _; rw [HAC.out, List.take_length]
      clear HAC
      go_wp2_with fail
      go_ret
      exact ⟨⟨s, rfl, HE2⟩, hb⟩
end Go.Proofs.YtamimigpnhblmaaGreatDoor

namespace Go.Proofs.YtamimigpnhblmaaGreatDoor
open Go Go.RowKit

def POfPost (l : List FileB) (w : World) (e : Ending) (w' : World) : Prop := (∃ t : ByteArray, e = .returned (.tuple #[.string t, .agg (erA (treeEr l))]) ∧ Hid (bl t = packT l)) ∧ Below w.heap.size w w'

theorem packOf_end {w2 w3 : World} {q g gw : Nat} {c a : Int} (hb : Below w2.heap.size w2.drew w3) (hq : w2.heap[q]? = some (.cells #[.int .i64 c, .int .i64 a] 29 (0, 0))) (hg : w2.heap[g]? = some (.cells #[.int .i64 0, .int .i64 0] 29 (0, 0))) (hgw : gw ≤ g) :
    w3.cell? ⟨q, 0, none⟩ = some (.int .i64 c) ∧ w3.cell? ⟨q, 1, none⟩ = some (.int .i64 a) ∧ w3.frozen? ⟨g, 0, none⟩ = false ∧ w3.frozen? ⟨g, 1, none⟩ = false ∧ w3.cell? ⟨g, 0, none⟩ = some (.int .i64 0) ∧ w3.cell? ⟨g, 1, none⟩ = some (.int .i64 0) ∧
      Hid (((w3.setCell ⟨g, 0, none⟩ (.int .i64 c)).setCell ⟨g, 1, none⟩ (.int .i64 a)).cell? ⟨g, 0, none⟩ = some (.int .i64 c) ∧ ((w3.setCell ⟨g, 0, none⟩ (.int .i64 c)).setCell ⟨g, 1, none⟩ (.int .i64 a)).cell? ⟨g, 1, none⟩ = some (.int .i64 a) ∧ Below gw w3 ((w3.setCell ⟨g, 0, none⟩ (.int .i64 c)).setCell ⟨g, 1, none⟩ (.int .i64 a))) := by
  have hq3 : w3.heap[q]? = some (.cells #[.int .i64 c, .int .i64 a] 29 (0, 0)) := (hb.block q (Array.getElem?_eq_some_iff.1 hq).1).trans hq
  have hg3 : w3.heap[g]? = some (.cells #[.int .i64 0, .int .i64 0] 29 (0, 0)) := (hb.block g (Array.getElem?_eq_some_iff.1 hg).1).trans hg
  exact ⟨by rw [Lib.cell_of_heap hq3]; rfl, by rw [Lib.cell_of_heap hq3]; rfl, Lib.frozen_of_heap hg3 0, Lib.frozen_of_heap hg3 1, by rw [Lib.cell_of_heap hg3]; rfl, by rw [Lib.cell_of_heap hg3]; rfl, fault_store hg3 (.int .i64 c) (.int .i64 a) hgw⟩

end Go.Proofs.YtamimigpnhblmaaGreatDoor

namespace Go.Proofs.YtamimigpnhblmaaGreatDoor
open Go Go.RowKit

def RSumPost (l : List FileB) (w : World) (e : Ending) (w' : World) : Prop := e = .returned (.tuple #[.int .i64 (sumL (packT l) : Nat), .agg (erA (treeEr l))]) ∧ Below w.heap.size w w'

theorem refSumOf_below (s : ByteArray) (w : World) (hs : s.size ≤ 9223372036854775807) :
    Calls Tryz.prog 89 #[.string s] w fun e w' => e = .returned (.int .i64 (sumL (bl s) : Nat)) ∧ Below w.heap.size w w' := by
  refine (refSumOf_any s w hs).mono ?_
  rintro e w' ⟨rfl, rfl⟩
  exact ⟨rfl, Below.refl _ _⟩

end Go.Proofs.YtamimigpnhblmaaGreatDoor
