/- chandlerylaw1.Names: the walk. -/
import Derived.Test.YtkglpgbpfngafaaDoorCoded
import Derived.Test.YtkglpgbpfngafaaDoorSameInts
namespace Go.Proofs.YtkglpgbpfngafaaDoor
open Go Go.RowKit

set_option maxHeartbeats 400000 in
theorem code_other {E : Nat → Addr} {w : World} (hE : Env E w) (a : Addr) (ca : Array Value) (ta : TypeId) (ra : w.heap[a.block]? = some (.cells ca ta (0, 0))) (ho : ∀ k, k < 13 → a ≠ E k) :
    Calls Tryd.prog 12 #[.iface 76 (.pointer (some a))] w fun e w' =>
    e = .returned (.tuple #[.int .i64 (-1), .int .i64 (-1)]) ∧ Below w.heap.size w w' := by
  go_enter Tryd.func12, Tryd.ntmps12
  go_wp2_with fail
  refine (as_miss_below (hE.ext ((Below.refl _ _).alloc (Nat.le_refl _) _)) _ _ (.pointer none) (by go_simp)).mono ?_
  rintro ev w1 ⟨rfl, hb⟩
  have hb1 : Below w.heap.size w w1 := ((Below.refl _ _).alloc (Nat.le_refl _) _).trans (hb.mono (by simp))
  have hE1 := hE.ext hb1
  have ra1 : w1.heap[a.block]? = some (.cells ca ta (0, 0)) := by rw [hb1.block _ (Array.getElem?_eq_some_iff.1 ra).1]; exact ra
  have hz : w.heap.size < w1.heap.size := by have := hb.size; simp at this; omega
  have e0 := hE1.eText
  have e1 := hE1.eBound
  have e2 := hE1.eShape
  have e3 := hE1.eKind
  have e4 := hE1.eName
  have e5 := hE1.eNone
  have e6 := hE1.eExist
  have e7 := hE1.eFull
  have e8 := hE1.eOrder
  have e9 := hE1.eOut
  have e10 := hE1.eClash
  have e11 := hE1.eSum
  have e12 := hE1.eOff
  clear hb
  go_wp2_with fail
  have hc := cells13 E w1
  have ra2 : (w1.alloc (Obj.cells #[sentV E 0, sentV E 1, sentV E 2, sentV E 3, sentV E 4, sentV E 5, sentV E 6, sentV E 7, sentV E 8, sentV E 9, sentV E 10, sentV E 11, sentV E 12] 25)).heap[a.block]? = some (.cells ca ta (0, 0)) := by rw [Below.heap_alloc _ _ _ (Array.getElem?_eq_some_iff.1 ra1).1]; exact ra1
  have hbb : Below w.heap.size w (w1.alloc (Obj.cells #[sentV E 0, sentV E 1, sentV E 2, sentV E 3, sentV E 4, sentV E 5, sentV E 6, sentV E 7, sentV E 8, sentV E 9, sentV E 10, sentV E 11, sentV E 12] 25)) := hb1.alloc (by omega) _
  have hEE := hE1.ext ((Below.refl _ w1).alloc (Nat.le_refl _) (Obj.cells #[sentV E 0, sentV E 1, sentV E 2, sentV E 3, sentV E 4, sentV E 5, sentV E 6, sentV E 7, sentV E 8, sentV E 9, sentV E 10, sentV E 11, sentV E 12] 25))
  clear e0 e1 e2 e3 e4 e5 e6 e7 e8 e9 e10 e11 e12 hE hE1 hb1 ra ra1
  generalize w1.alloc (Obj.cells #[sentV E 0, sentV E 1, sentV E 2, sentV E 3, sentV E 4, sentV E 5, sentV E 6, sentV E 7, sentV E 8, sentV E 9, sentV E 10, sentV E 11, sentV E 12] 25) = W at hc hbb hEE ra2 ⊢
  generalize w1.heap.size = B at hc ⊢
  go_loop [3, 31] (fun z i => ∃ n : Nat, n ≤ 13 ∧ i = .int .i64 n ∧ z = .int .i64 (-1)) (fun _ i => 13 - (intOf i).toNat)
  case atStart => exact ⟨0, Nat.zero_le _, rfl, rfl⟩
  case round =>
    obtain ⟨n, hn, rfl, rfl⟩ := hrel
    by_cases hn13 : n < 13
    · have hcn := hc n hn13
      obtain ⟨cj, tj, rj⟩ := hEE.row n hn13
      have his := is_other a (E n) ca cj ta tj W (ho n hn13) ra2 rj
      have HI := Lib.hid his
      have HC := Lib.hid hc
      clear his hc ra2 rj
      go_wp2_with fail
      refine HI.out.mono ?_
      rintro e w' ⟨rfl, rfl⟩
      go_wp2_with fail
      go_round
      case rel => exact ⟨n + 1, by omega, by go_num, rfl⟩
      case measure => simp [intOf]; omega
    · clear hc ra2
      go_wp2_with fail
      go_ret2
      exact ⟨rfl, hbb⟩


theorem new_any (s : ByteArray) (w : World) : Calls Tryd.prog 14 #[.string s] w fun e w' =>
    e = .returned (.iface 76 (.pointer (some ⟨w.heap.size, 0, none⟩))) ∧ w.alloc (.cells #[.string s] 78) = w' := by
  go_enter Tryd.func14, Tryd.ntmps14
  go_wp2
  go_ret
  exact ⟨rfl, rfl⟩

abbrev nums : List Int := [6, 12, 30, 4000, 12000, 20000, 1048576, 10, 8, 20, 40, 80, 16]

theorem nums_row (w : World) (b : Nat) (hb : b = w.heap.size) : Row encInt 1 (w.alloc (.cells #[.int .i64 6, .int .i64 12, .int .i64 30, .int .i64 4000, .int .i64 12000, .int .i64 20000, .int .i64 1048576, .int .i64 10, .int .i64 8, .int .i64 20, .int .i64 40, .int .i64 80, .int .i64 16] 3)) (.slice (some ⟨b, 0, none⟩) 13 13) nums :=
  Row.block1 (Value.int .i64) w nums 3 (by rw [maxLen_eq]; decide) b 13 hb rfl

set_option maxHeartbeats 1000000 in
theorem names_walk {E : Nat → Addr} {w : World} (hE : Env E w) : Calls Tryd.prog 3 #[] w fun e w' =>
    e = .returned (.bool true) ∧ Below w.heap.size w w' := by
  go_enter Tryd.func3, Tryd.ntmps3
  go_wp2_with fail
  refine (sameInts_any (l := nums) (m := nums) ((nums_row w _ rfl).ext ((Below.refl _ _).alloc (by simp) _)) (nums_row _ _ (by simp))).mono ?_
  rintro e w1 ⟨rfl, hb⟩
  have hb1 : Below w.heap.size w w1 := (((Below.refl _ _).alloc (Nat.le_refl _) _).alloc (by simp) _).trans (hb.mono (by simp; omega))
  have hE1 := hE.ext hb1
  have hz : w.heap.size < w1.heap.size := by have := hb.size; simp at this; omega
  have e0 := hE1.eText
  have e1 := hE1.eBound
  have e2 := hE1.eShape
  have e3 := hE1.eKind
  have e4 := hE1.eName
  have e5 := hE1.eNone
  have e6 := hE1.eExist
  have e7 := hE1.eFull
  have e8 := hE1.eOrder
  have e9 := hE1.eOut
  have e10 := hE1.eClash
  have e11 := hE1.eSum
  have e12 := hE1.eOff
  clear hb
  go_wp2_with fail
  have hc := cells13 E w1
  have hbb : Below w.heap.size w (w1.alloc (Obj.cells #[sentV E 0, sentV E 1, sentV E 2, sentV E 3, sentV E 4, sentV E 5, sentV E 6, sentV E 7, sentV E 8, sentV E 9, sentV E 10, sentV E 11, sentV E 12] 25)) := hb1.alloc (by omega) _
  have hEE := hE1.ext ((Below.refl _ w1).alloc (Nat.le_refl _) (Obj.cells #[sentV E 0, sentV E 1, sentV E 2, sentV E 3, sentV E 4, sentV E 5, sentV E 6, sentV E 7, sentV E 8, sentV E 9, sentV E 10, sentV E 11, sentV E 12] 25))
  have hBW : w1.heap.size < (w1.alloc (Obj.cells #[sentV E 0, sentV E 1, sentV E 2, sentV E 3, sentV E 4, sentV E 5, sentV E 6, sentV E 7, sentV E 8, sentV E 9, sentV E 10, sentV E 11, sentV E 12] 25)).heap.size := by simp
  clear e0 e1 e2 e3 e4 e5 e6 e7 e8 e9 e10 e11 e12 hE1 hb1
  generalize w1.alloc (Obj.cells #[sentV E 0, sentV E 1, sentV E 2, sentV E 3, sentV E 4, sentV E 5, sentV E 6, sentV E 7, sentV E 8, sentV E 9, sentV E 10, sentV E 11, sentV E 12] 25) = W at hc hbb hEE hBW ⊢
  generalize w1.heap.size = B at hc hBW ⊢
  have HC := Lib.hid hc
  clear hc hz
  go_loopw [0, 4] (fun z i wr => ∃ n : Nat, n ≤ 13 ∧ i = .int .i64 n ∧ z = .bool false ∧ Below W.heap.size W wr) (fun _ i _ => 13 - (intOf i).toNat)
  case atStart => exact ⟨0, Nat.zero_le _, rfl, rfl, Below.refl _ _⟩
  case round =>
    obtain ⟨n, hn, rfl, rfl, hbr⟩ := hrel
    have hEr := hEE.ext hbr
    by_cases hn13 : n < 13
    · have hcn : wr.cell? ⟨B, n, none⟩ = some (sentV E n) := by rw [hbr.cell (p := ⟨B, n, none⟩) hBW]; exact HC.out n hn13
      have hBr : B < wr.heap.size := lt_of_cell hcn
      have hcb : codedB (Er.base (n + 1)) ((n : Int) + 1) = true := by simp [codedB]
      have hst : ∀ v, (wr.alloc (Obj.cells #[Value.int IntKind.i64 7, v] 31)).cell? ⟨wr.heap.size, 1, none⟩ = some v := fun v => by rw [World.cell?_alloc_at _ _ _ _ rfl]; rfl
      go_wp2_with fail
      refine (code_any (hEr.ext ((Below.refl _ _).alloc (Nat.le_refl _) _)) (IsErr.fault E _ n hn13 7 wr.heap.size (by rw [World.cell?_alloc_at _ _ _ _ rfl]; rfl) (hst _))).mono ?_
      rintro e w2 ⟨rfl, hb2⟩
      have hbr2 : Below W.heap.size W w2 := (hbr.alloc hbr.size _).trans (hb2.mono (by have := hbr.size; simp; omega))
      have hcn2 : w2.cell? ⟨B, n, none⟩ = some (sentV E n) := by rw [hbr2.cell (p := ⟨B, n, none⟩) hBW]; exact HC.out n hn13
      have hE2 := hEE.ext hbr2
      clear hb2 hcn hst
      go_wp2_with fail
      refine (coded_any hE2 (IsErr.base E _ n hn13) _).mono ?_
      rintro e w3 ⟨rfl, hb3⟩
      have hbr3 : Below W.heap.size W w3 := hbr2.trans (hb3.mono hbr2.size)
      clear hb3 hbr hbr2 hEr hE2 hcn2
      go_wp2_with fail
      go_roundw
      case rel => exact ⟨n + 1, by omega, by go_num, rfl, hbr3⟩
      case measure => simp [intOf]; omega
    · have hEr' := hEr
      clear hEr
      go_wp2_with fail
      refine (new_any _ _).mono ?_
      rintro e w2 ⟨rfl, rfl⟩
      go_wp2_with fail
      refine (code_other (hEr'.ext ((Below.refl _ _).alloc (Nat.le_refl _) _)) ⟨wr.heap.size, 0, none⟩ _ _ (heap_alloc_new wr _) (fun k hk h => ?_)).mono ?_
      · obtain ⟨c, t, hrow⟩ := hEr'.row k hk
        have h1 := (Array.getElem?_eq_some_iff.1 hrow).1
        rw [← h] at h1
        exact Nat.lt_irrefl _ h1
      rintro e w3 ⟨rfl, hb3⟩
      have hbr3 : Below W.heap.size W w3 := (hbr.alloc hbr.size _).trans (hb3.mono (by have := hbr.size; simp; omega))
      have hE3 := hEE.ext hbr3
      have hcb : codedB Er.nil 0 = true := rfl
      clear hb3
      go_wp2_with fail
      refine (coded_any hE3 (IsErr.nil E _) _).mono ?_
      rintro e w4 ⟨rfl, hb4⟩
      have hbr4 : Below W.heap.size W w4 := hbr3.trans (hb4.mono hbr3.size)
      clear hb4
      go_wp2_with fail
      go_ret
      exact ⟨rfl, hbb.trans (hbr4.mono hbb.size)⟩
end Go.Proofs.YtkglpgbpfngafaaDoor
