/- chandleryref1.Byte, below, Decimal by their contracts. -/
import Derived.Test.YtpafddeakanopaaDoorItoa
import Derived.Test.YtpafddeakanopaaDoorStr
import Derived.Test.YtpafddeakanopaaDoorRow
import Derived.Deep.RegionWith
import Derived.IntWalk
namespace Go.Proofs.YtpafddeakanopaaDoor
open Go Go.RowKit

set_option maxRecDepth 10000 in
theorem byte_any (c : Nat) (hc : c < 256) (w : World) :
    Calls Tryd.prog 111 #[.int .i64 c] w fun e w' => ∃ t : ByteArray, e = .returned (.string t) ∧ Hid (bl t = [UInt8.ofNat c]) ∧ Below w.heap.size w w' := by
  have hconv : (convert 81 9 (.slice (some ⟨w.heap.size, 0, none⟩) 1 1)).run Tryd.prog (w.alloc (Obj.cells #[Value.int IntKind.u8 c] 5)) = .ok (.string (strOfNums [(c : Int)])) (w.alloc (Obj.cells #[Value.int IntKind.u8 c] 5)) :=
    run_convert_bytes_arg (w.alloc (Obj.cells #[Value.int IntKind.u8 c] 5)) 81 5 Tryd.underlying81 Tryd.underlying5 w.heap.size 0 1 1 [(c : Int)] rfl (fun i hi => by
      obtain rfl : i = 0 := by omega
      rw [World.cell?_alloc_at _ _ _ _ rfl]; rfl) 9 Tryd.underlying9
  go_enter Tryd.func111, Tryd.ntmps111
  go_wp2
  clear hconv
  go_ret
  refine ⟨strOfNums [(c : Int)], rfl, ?_, (Below.refl _ _).alloc (Nat.le_refl _) _⟩
  show bl (strOfNums [(c : Int)]) = _
  exact (strOfNums_data _).trans (by simp)

theorem byte_int (i : Int) (c : Nat) (hi : i = (c : Int)) (hc : c < 256) (w : World) :
    Calls Tryd.prog 111 #[.int .i64 i] w fun e w' => ∃ t : ByteArray, e = .returned (.string t) ∧ Hid (bl t = [UInt8.ofNat c]) ∧ Below w.heap.size w w' := by
  subst hi; exact byte_any c hc w

theorem below_any : ∀ (n : Nat) (_ : n ≤ 9223372036854775807) (w : World),
    Calls Tryd.prog 90 #[.int .i64 (-(n : Int))] w fun e w' => ∃ t : ByteArray, e = .returned (.string t) ∧ Hid (bl t = Lib.decDigits n) ∧ Below w.heap.size w w' := by
  intro n
  induction n using Nat.strongRecOn with
  | _ n ih =>
    intro hn w
    by_cases h10 : n < 10
    · have hd : -10 < -(n : Int) := by omega
      have HD := Lib.hid (decDigits_small h10)
      clear ih
      go_enter Tryd.func90, Tryd.ntmps90
      go_wp2_with fail
      refine (byte_int _ (48 + n) (by omega) (by omega) _).mono ?_
      rintro e w' ⟨t, rfl, HT, hb⟩
      go_wp2_with fail
      go_ret
      exact ⟨t, rfl, by rw [HD.out]; exact HT, hb⟩
    · have hd : ¬ (-10 < -(n : Int)) := by omega
      have HD := Lib.hid (decDigits_step h10)
      have h1 := ih (n / 10) (by omega) (by omega)
      have H1 := Lib.hid h1
      clear ih h1
      go_enter Tryd.func90, Tryd.ntmps90
      go_wp2_with fail
      refine ((show Calls Tryd.prog _ #[.int .i64 (-((n : Int) / 10))] w _ from by have := H1.out w; rwa [show (((n / 10 : Nat)) : Int) = (n : Int) / 10 from by omega] at this)).mono ?_
      rintro e w1 ⟨t1, rfl, HT1, hb1⟩
      go_wp2_with fail
      refine (byte_int _ (48 + n % 10) (by omega) (by omega) _).mono ?_
      rintro e w2 ⟨t2, rfl, HT2, hb2⟩
      have hs1 : t1.size ≤ 21 := by
        rw [← bl_length, HT1.out]; exact decDigits_len _ (by omega)
      have hs2 : t2.size = 1 := by rw [← bl_length, HT2.out]; rfl
      have HS2 := Lib.hid hs2
      have hs3 : t2.size ≤ 1 := by omega
      clear hs2
      go_wp2_with fail
      go_ret
      exact ⟨t1 ++ t2, rfl, by rw [HD.out]; show bl (t1 ++ t2) = _; rw [bl_append, HT1.out, HT2.out], hb1.trans (hb2.mono hb1.size)⟩

theorem decimal_any (n : Nat) (hn : n ≤ 9223372036854775807) (w : World) :
    Calls Tryd.prog 69 #[.int .i64 n] w fun e w' => ∃ t : ByteArray, e = .returned (.string t) ∧ Hid (bl t = Lib.decDigits n) ∧ t.size ≤ 21 ∧ Below w.heap.size w w' := by
  go_enter Tryd.func69, Tryd.ntmps69
  go_wp2_with fail
  refine (below_any n hn w).mono ?_
  rintro e w1 ⟨t1, rfl, HT1, hb1⟩
  have hs1 : t1.size ≤ 21 := by rw [← bl_length, HT1.out]; exact decDigits_len _ hn
  go_wp2_with fail
  go_ret
  exact ⟨t1, rfl, HT1, hs1, hb1⟩
end Go.Proofs.YtpafddeakanopaaDoor
