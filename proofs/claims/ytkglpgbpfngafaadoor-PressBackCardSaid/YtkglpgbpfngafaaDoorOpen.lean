/- press.Open by its contract. -/
import Derived.Test.YtkglpgbpfngafaaDoorSize
import Derived.Test.YtkglpgbpfngafaaDoorErrInv
import Derived.Test.YtkglpgbpfngafaaDoorRow
import Derived.Test.YtkglpgbpfngafaaDoorBuilder
import Derived.Test.YtkglpgbpfngafaaDoorShelf
import Derived.Deep.QuietTactic
import Derived.BigQuiet
namespace Go.Proofs.YtkglpgbpfngafaaDoor
open Go Go.RowKit

theorem open1_any (n : Nat) (c : UInt8) (B b : Nat) (acc : List UInt8) (w : World) (hn : n < 1000000000) (hlen : acc.length + n ≤ 140737488355328) (hB : IsB B b (Lib.byteCells acc) w) (hBw : B ≤ w.heap.size) :
    Calls Tryd.prog 54 #[.int .i64 n, .int .u8 c.toNat, .pointer (some ⟨b, 0, none⟩)] w fun e w' => e = .returned (.tuple #[]) ∧ IsB B b (Lib.byteCells (acc ++ List.replicate n c)) w' ∧ Below B w w' := by
  go_enter Tryd.func54, Tryd.ntmps54
  go_wp2_with fail
  go_loopw [6] (fun i wr => ∃ j : Nat, j ≤ n ∧ i = .int .i64 j ∧ IsB B b (Lib.byteCells (acc ++ List.replicate j c)) wr ∧ Below B w wr) (fun i _ => n - (intOf i).toNat)
  case atStart => exact ⟨0, Nat.zero_le _, rfl, by simpa using hB, Below.refl _ _⟩
  case round =>
    obtain ⟨j, hj, rfl, hBj, hb⟩ := hrel
    by_cases hlt : j < n
    · go_wp2_with fail
      refine (writeByte_any B b _ c.toNat _ hBj (by rw [Lib.byteCells_length, List.length_append, List.length_replicate]; omega) (by have := hb.size; omega)).mono ?_
      rintro e w2 ⟨rfl, hB2, hb2⟩
      have hB3 : IsB B b (Lib.byteCells (acc ++ List.replicate (j + 1) c)) w2 := by
        rw [List.replicate_succ', ← List.append_assoc, byteCells_append]; exact .inr hB2
      have hb3 := hb.trans hb2
      clear hB2 hb2 hBj hb
      go_wp2_with fail
      go_roundw
      case rel => exact ⟨j + 1, by omega, by go_num, hB3, hb3⟩
      case measure => simp [intOf]; omega
    · obtain rfl : j = n := by omega
      go_wp2_with fail
      go_end0
      exact ⟨rfl, hBj, hb⟩

/-- What Open tells: the text, and its error. -/
def openT (r : List (Nat × UInt8) × Option Nat) (most : Int) : List UInt8 := match r.2 with
  | none => if (sumR r.1 : Int) > most then [] else openR r.1
  | some _ => []
def openE (r : List (Nat × UInt8) × Option Nat) (most : Int) : Er := match r.2 with
  | none => if (sumR r.1 : Int) > most then Er.base 8 else Er.nil
  | some p => Er.fault p 1
theorem open_some {r : List (Nat × UInt8) × Option Nat} {p : Nat} (h : r.2 = some p) (most : Int) : openT r most = [] ∧ openE r most = Er.fault p 1 := by
  unfold openT openE; rw [h]; exact ⟨rfl, rfl⟩
theorem open_much {r : List (Nat × UInt8) × Option Nat} (h : r.2 = none) {most : Int} (hm : most < (sumR r.1 : Int)) : openT r most = [] ∧ openE r most = Er.base 8 := by
  unfold openT openE; rw [h]; simp only; rw [if_pos hm, if_pos hm]; exact ⟨rfl, rfl⟩
theorem open_fine {r : List (Nat × UInt8) × Option Nat} (h : r.2 = none) {most : Int} (hm : ¬ most < (sumR r.1 : Int)) : openT r most = openR r.1 ∧ openE r most = Er.nil := by
  unfold openT openE; rw [h]; simp only; rw [if_neg hm, if_neg hm]; exact ⟨rfl, rfl⟩

theorem openR_append (a b : List (Nat × UInt8)) : openR (a ++ b) = openR a ++ openR b := by simp [openR]

def OpenInv (w : World) (acc : List (Nat × UInt8)) (W : World) : Prop :=
  IsB w.heap.size w.heap.size (Lib.byteCells (openR acc)) W ∧ Below w.heap.size w W

set_option maxHeartbeats 1000000 in
set_option maxRecDepth 100000 in
theorem open_any {E : Nat → Addr} (s : ByteArray) (most : Int) (w : World) (hs : s.size ≤ 1073741824) (hm : most ≤ 1099511627776) (hE : Env E w) :
    Calls Tryd.prog 18 #[.string s, .int .i64 most] w fun e w' => ∃ t v, e = .returned (.tuple #[.string t, v]) ∧ Hid (bl t = openT (runsL (bl s)) most) ∧ IsErr E w' v (openE (runsL (bl s)) most) ∧ Below w.heap.size w w' := by
  have eg : ∀ args w, (callFunc 54 args).run Tryd.prog w = .ok (.enter 54 args) w := enters_of Tryd.func54 (by kernel_rfl) rfl
  have EG := Lib.hid eg
  clear eg
  go_enter Tryd.func18, Tryd.ntmps18
  go_wp2_with fail
  refine (size_any s w hs hE).mono ?_
  rintro e w1 ⟨v, rfl, hv, hb1⟩
  cases hr : (runsL (bl s)).2 with
  | some p =>
    have hv' := hv
    rw [hr] at hv'
    obtain ⟨b, _, hvb, _, _⟩ := hv'.fault_inv
    subst hvb
    have HT := Lib.hid (open_some hr most)
    have HV : IsErr E w1 _ (Er.fault p 1) := hv'
    clear hv hv' hr
    go_wp2_with fail
    go_ret2
    rw [HT.out.1, HT.out.2]
    exact ⟨⟨#[]⟩, _, rfl, rfl, HV, hb1⟩
  | none =>
    rw [hr] at hv
    have hvn := hv.nil_inv
    subst hvn
    have hsz := sizeR_none hr
    rw [hsz]
    have hE1 := hE.ext hb1
    clear hv hsz
    by_cases hmm : most < (sumR (runsL (bl s)).1 : Int)
    · have HT := Lib.hid (open_much hr hmm)
      have e7 := hE1.eFull
      clear hr
      go_wp2_with fail
      go_quiet (fail)
      go_wp2_with fail
      go_ret2
      rw [HT.out.1, HT.out.2]
      exact ⟨⟨#[]⟩, _, rfl, rfl, IsErr.base E _ 7 (by decide), hb1.trans (below_drewN _ _ _)⟩
    · have HT := Lib.hid (open_fine hr hmm)
      have hEach := each_any (E := E) s (w1.alloc (.cells #[.pointer none, .slice none 0 0] 81)) hs 54 #[.pointer (some ⟨w1.heap.size, 0, none⟩)] (OpenInv w1) EG.out
        (fun acc n c W hI hn hrest => by
          obtain ⟨rest, hrr⟩ := hrest
          obtain ⟨hB, hb⟩ := hI
          refine (open1_any n c _ _ _ W hn ?_ hB hb.size).mono ?_
          · rw [openR_length]
            rw [← hrr, sumR_append, sumR_cons] at hmm
            simp only at hmm
            omega
          · rintro e W' ⟨rfl, hB', hb'⟩
            refine ⟨rfl, ?_, hb.trans hb'⟩
            rw [openR_append]
            simpa [openR] using hB')
        (fun acc W hI => by rw [hI.2.cell (p := ⟨0, 0, none⟩) (lt_of_cell hE1.eText)]; exact hE1.eText)
        ⟨isB_new w1 _ (Nat.le_refl _), (Below.refl _ _).alloc (Nat.le_refl _) _⟩
      have H := Lib.hid hEach
      have HR := Lib.hid hr
      clear hEach hr
      go_wp2_with fail
      refine H.out.mono ?_
      intro e w2 hend
      unfold EachEnd at hend
      rw [HR.out] at hend
      obtain ⟨rfl, hB2, hb2⟩ := hend
      clear H
      go_wp2_with fail
      refine (Tryd.Builder_String_any _ _ _ _ hB2 hb2.size).mono ?_
      rintro e w3 ⟨rfl, hb3⟩
      have hfin : Below w.heap.size w w3 := hb1.trans ((hb2.trans hb3).mono hb1.size)
      clear hB2 hb2 hb3
      go_wp2_with fail
      go_ret2
      rw [HT.out.1, HT.out.2]
      exact ⟨_, _, rfl, rfl, IsErr.nil _ _, hfin⟩
end Go.Proofs.YtkglpgbpfngafaaDoor
