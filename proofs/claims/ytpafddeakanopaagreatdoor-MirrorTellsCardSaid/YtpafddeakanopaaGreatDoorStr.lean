/- The model's steps on strings, at numbers that are Nats in disguise: an index, a piece. -/
import Derived.Test.YtpafddeakanopaaGreatDoorProg
import Derived.WalkKit
import Derived.Laws.Slices
import Derived.Laws.Strings2
namespace Go.Proofs.YtpafddeakanopaaGreatDoor
open Go Go.RowKit

theorem index_nat (s : ByteArray) (i : Int) (k : Nat) (h : k < s.size) (e : i = (k : Int)) (W : World) : (Instr.index 9 (.string s) (.int .i64 i)).run Tryz.prog W = .ok (.int .u8 s[k].toNat) W := by
  subst e
  rw [run_index_string W 9 s .i64 k Tryz.underlying9]
  simp [h]
theorem slice_nat (s : ByteArray) (i j : Int) (a b : Nat) (hab : a ≤ b) (hb : b ≤ s.size) (ei : i = (a : Int)) (ej : j = (b : Int)) (W : World) :
    (Instr.slice 9 (.string s) (some (.int .i64 i)) (some (.int .i64 j)) none).run Tryz.prog W = .ok (.string (s.extract a b)) W := by
  subst ei; subst ej
  rw [run_slice_string W 9 s .i64 .i64 a b Tryz.underlying9 (by omega) (by omega) (by omega)]
  simp
theorem slice_from (s : ByteArray) (i : Int) (a : Nat) (ha : a ≤ s.size) (ei : i = (a : Int)) (W : World) :
    (Instr.slice 9 (.string s) (some (.int .i64 i)) none none).run Tryz.prog W = .ok (.string (s.extract a s.size)) W := by
  subst ei
  rw [run_slice_string_l W 9 s Tryz.underlying9 .i64 a (by omega) (by omega)]
  simp
theorem slice_to (s : ByteArray) (j : Int) (b : Nat) (hb : b ≤ s.size) (ej : j = (b : Int)) (W : World) :
    (Instr.slice 9 (.string s) none (some (.int .i64 j)) none).run Tryz.prog W = .ok (.string (s.extract 0 b)) W := by
  subst ej
  rw [run_slice_string_h W 9 s Tryz.underlying9 .i64 b (by omega) (by omega)]
  simp
end Go.Proofs.YtpafddeakanopaaGreatDoor
