/- chandlerylaw1.packed: a closed fact. -/
import Derived.Test.YtjebljhhbnfpfaaDoorJPackRead
import Derived.Test.YtjebljhhbnfpfaaDoorJReadPlainly
namespace Go.Proofs.YtjebljhhbnfpfaaDoor
open Go Go.RowKit

abbrev packedF : FileB := ⟨⟨#[97, 47, 98]⟩, true, ⟨#[104, 105]⟩⟩
abbrev packedS : ByteArray := ⟨#[97, 47, 98, 32, 120, 32, 50, 10, 104, 105, 10]⟩
theorem packed_tree : (treeEr [packedF]).code = 0 := by
  decide +kernel
theorem packed_text : bl packedS = packL [packedF] := by
  have h : Lib.decDigits 2 = [50] := decDigits_small (by decide)
  unfold packL packOne
  simp only [List.flatMap_cons, List.flatMap_nil]
  rw [show (packedF).text.size = 2 from rfl, h]
  rfl
theorem packed_read : readEr (bl packedS) = ⟨0, none⟩ ∧ readT (bl packedS) = [packedF] := by
  rw [packed_text]
  exact read_pack packed_tree

set_option maxHeartbeats 1000000 in
set_option maxRecDepth 100000 in
theorem packed_any {E : Nat → Addr} (w : World) (hE : REnv E w) :
    Calls Tryd.prog 4 #[] w fun e w' => e = .returned (.bool true) ∧ Below w.heap.size w w' := by
  have C := Lib.hid (packRead_any packedS w (by decide) hE)
  clear hE
  have HR := Lib.hid packed_read
  go_enter Tryd.func4, Tryd.ntmps4
  go_wp2_with fail
  refine C.out.mono ?_
  clear C
  rintro e w1 ⟨⟨v, ev, rfl, HV, HEV⟩, hb1⟩
  obtain rfl : ev = .nilIface := by
    have h := HEV.out
    rw [HR.out.1] at h
    exact h.nil_inv
  have hv := HV.out
  rw [HR.out.2] at hv
  obtain ⟨⟨ao, cap, rfl, h1, h2, h3⟩, _⟩ := hv
  obtain ⟨b, off, rfl, hbl, hcell⟩ := h3 0 (by simp)
  obtain ⟨q0, q1, q2⟩ := hcell 0 (by simp)
  have p0 : w1.cell? ⟨b, off, none⟩ = some (.string ⟨#[97, 47, 98]⟩) := by rw [Nat.zero_mul, Nat.add_zero] at q0; exact q0
  have p1 : w1.cell? ⟨b, off + 1, none⟩ = some (.bool true) := by rw [Nat.zero_mul, Nat.add_zero] at q1; exact q1
  have p2 : w1.cell? ⟨b, off + 2, none⟩ = some (.string ⟨#[104, 105]⟩) := by rw [Nat.zero_mul, Nat.add_zero] at q2; exact q2
  clear HV HEV HR h3 hcell q0 q1 q2
  go_wp2_with fail
  unfold Oper.wp
  simp [execOp, go_sem]
  go_wp2_with fail
  go_ret
  exact ⟨rfl, hb1⟩
end Go.Proofs.YtjebljhhbnfpfaaDoor
