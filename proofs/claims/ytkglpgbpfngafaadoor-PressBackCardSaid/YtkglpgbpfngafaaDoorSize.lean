/- press.Size by its contract. -/
import Derived.Test.YtkglpgbpfngafaaDoorEach
import Derived.OneCell
import Derived.Shelf.Abstract
namespace Go.Proofs.YtkglpgbpfngafaaDoor
open Go Go.RowKit

theorem size1_any (n : Nat) (c : UInt8) (b a : Nat) (w : World) (ha : a + n ≤ 9223372036854775807) (hc : w.cell? ⟨b, 0, none⟩ = some (.int .i64 a)) (hf : w.frozen? ⟨b, 0, none⟩ = false) :
    Calls Tryd.prog 53 #[.int .i64 n, .int .u8 c.toNat, .pointer (some ⟨b, 0, none⟩)] w fun e w' => e = .returned (.tuple #[]) ∧ w' = w.setCell ⟨b, 0, none⟩ (.int .i64 ((a : Int) + n)) := by
  go_enter Tryd.func53, Tryd.ntmps53
  go_wp2
  go_end0
  exact ⟨rfl, rfl⟩

/-- The error of a pressed text. -/
def errR : Option Nat → Er
  | none => Er.nil
  | some p => Er.fault p 1

/-- What Size tells. -/
def sizeR (r : List (Nat × UInt8) × Option Nat) : Nat := match r.2 with
  | none => sumR r.1
  | some _ => 0
theorem sizeR_none {r : List (Nat × UInt8) × Option Nat} (h : r.2 = none) : sizeR r = sumR r.1 := by unfold sizeR; rw [h]
theorem sizeR_some {r : List (Nat × UInt8) × Option Nat} {p : Nat} (h : r.2 = some p) : sizeR r = 0 := by unfold sizeR; rw [h]

def SizeInv (w : World) (acc : List (Nat × UInt8)) (W : World) : Prop :=
  W.heap[w.heap.size]? = some (.cells #[.int .i64 (sumR acc : Nat)] 3 (0, 0)) ∧ Below w.heap.size w W

set_option maxRecDepth 100000 in
theorem size_any {E : Nat → Addr} (s : ByteArray) (w : World) (hs : s.size ≤ 1073741824) (hE : Env E w) :
    Calls Tryd.prog 17 #[.string s] w fun e w' => ∃ v, e = .returned (.tuple #[.int .i64 (sizeR (runsL (bl s)) : Nat), v]) ∧ IsErr E w' v (errR (runsL (bl s)).2) ∧ Below w.heap.size w w' := by
  have eg : ∀ args w, (callFunc 53 args).run Tryd.prog w = .ok (.enter 53 args) w := enters_of Tryd.func53 (by kernel_rfl) rfl
  have hsum := runs_sum (bl s)
  rw [bl_length] at hsum
  have hEach := each_any (E := E) s (w.alloc (.cells #[.int .i64 0] 3)) hs 53 #[.pointer (some ⟨w.heap.size, 0, none⟩)] (SizeInv w) eg
    (fun acc n c W hI hn hrest => by
      obtain ⟨rest, hr⟩ := hrest
      obtain ⟨hc, hb⟩ := hI
      have hle : sumR acc + n ≤ 9223372036854775807 := by
        rw [← hr, sumR_append, sumR_cons] at hsum
        simp only at hsum
        omega
      refine (size1_any n c w.heap.size (sumR acc) W hle (by simp [World.cell?, hc]) (by simp [World.frozen?, hc])).mono ?_
      rintro e W' ⟨rfl, rfl⟩
      refine ⟨rfl, ?_, hb.setCell (Nat.le_refl _) _⟩
      rw [sumR_append, one_setCell hc]
      simp [sumR])
    (fun acc W hI => by rw [hI.2.cell (p := ⟨0, 0, none⟩) (lt_of_cell hE.eText)]; exact hE.eText)
    ⟨heap_alloc_new w _, (Below.refl _ _).alloc (Nat.le_refl _) _⟩
  have H := Lib.hid hEach
  clear hEach
  go_enter Tryd.func17, Tryd.ntmps17
  go_wp2_with fail
  refine H.out.mono ?_
  intro e w1 hend
  cases hr : (runsL (bl s)).2 with
  | none =>
    unfold EachEnd at hend
    rw [hr] at hend
    obtain ⟨rfl, hI1, hI2⟩ := hend
    have hc : w1.cell? ⟨w.heap.size, 0, none⟩ = some (.int .i64 (sumR (runsL (bl s)).1 : Nat)) := by simp [World.cell?, hI1]
    have HR := Lib.hid hr
    clear hr H
    go_wp2_with fail
    go_ret2
    rw [HR.out, sizeR_none HR.out]
    exact ⟨_, rfl, IsErr.nil _ _, hI2⟩
  | some p =>
    unfold EachEnd at hend
    rw [hr] at hend
    obtain ⟨W, ⟨hI1, hI2⟩, rfl, rfl⟩ := hend
    have hb : Below w.heap.size w (W.alloc (.cells #[.int .i64 p, sentV E 0] 31)) := hI2.alloc hI2.size _
    have hV : IsErr E (W.alloc (.cells #[.int .i64 p, sentV E 0] 31)) (.iface 29 (.pointer (some ⟨W.heap.size, 0, none⟩))) (Er.fault p 1) :=
      IsErr.fault E _ 0 (by decide) p W.heap.size (by rw [World.cell?_alloc_at _ _ _ _ rfl]; rfl) (by rw [World.cell?_alloc_at _ _ _ _ rfl]; rfl)
    have HR := Lib.hid hr
    clear hr H
    go_wp2_with fail
    go_ret2
    rw [HR.out, sizeR_some HR.out]
    exact ⟨_, rfl, hV, hb⟩
end Go.Proofs.YtkglpgbpfngafaaDoor
