/- (*strings.Builder).copyCheck, WriteByte, WriteString by their contracts (the shelf's own fall at this translation: it bears no panic's text): after the shelf's proofs, at this program's numbers. (*strings.Builder).WriteString, with what it leaves of the blocks behind the builder's: contracts. strconv.Itoa at a number from 0 on, its result behind a name. chandleryref1.Byte, below, Decimal by their contracts. -/
import Derived.Test.YtgchgdkpipanjaaGreatDoorProg
import Derived.WalkKit
import Derived.Lib.Builder
import Derived.Lib.AppendStr
import Derived.Lib.UnsafeStr
import Derived.Lib.Hide
import Derived.Deep.Draws
import Derived.Test.YtgchgdkpipanjaaGreatDoorKShelf
import Derived.Test.YtgchgdkpipanjaaGreatDoorKPlainly
import Derived.Lib.LaidTab
import Derived.Test.YtgchgdkpipanjaaGreatDoorKRowed
import Derived.Deep.RegionWith
import Derived.IntWalk
namespace Go.Proofs.YtgchgdkpipanjaaGreatDoor
open Go Go.RowKit

theorem Tryz.sizeBuilder : (Tryz.prog.info? 159).map (·.size) = some 2 := by kernel_rfl
theorem Tryz.liesBuilder : liesAt Tryz.prog Tryz.prog.depth 159 (2 / Tryz.prog.cellsOf 159) 0 159 1 = true := by kernel_rfl
theorem Tryz.infoByte : (Tryz.prog.info? 5).map (fun i => (i.zero, i.size, i.bytes)) = some (some (.int .u8 0), 1, 1) := by kernel_rfl

/-- A builder of the call's own, from block B on, that holds the bytes bs. -/
abbrev IsB (B b : Nat) (bs : List Value) (w : World) : Prop := Lib.IsBuilder 159 5 B b bs w
end Go.Proofs.YtgchgdkpipanjaaGreatDoor

namespace Go.Proofs.YtgchgdkpipanjaaGreatDoor
open Go Go.RowKit

/-- The builder's buffer is v. -/
def BufAt (b : Nat) (v : Value) (w : World) : Prop := ∃ p, w.heap[b]? = some (.cells #[p, v] 159 (0, 0))
theorem BufAt.same {b : Nat} {v v' : Value} {w : World} (h : BufAt b v w) (h' : BufAt b v' w) : v = v' := by
  obtain ⟨p, h⟩ := h
  obtain ⟨p', h'⟩ := h'
  rw [h] at h'
  injection h' with h'
  injection h' with h1 h2 h3
  have := congrArg (fun a => a[1]?) h1
  simpa using this
/-- A block is none of the builder's. -/
def Apart (b k : Nat) (w : World) : Prop := k < w.heap.size ∧ k ≠ b ∧ ∀ v, BufAt b v w → v.ownBlock ≠ some k
theorem Apart.ext {b k : Nat} {bs : List Value} {B : Nat} {w w' : World} (h : Apart b k w) (hB : IsB B b bs w) (hb : Below w.heap.size w w') : Apart b k w' := by
  have key : ∀ p, Lib.BuilderAt 159 5 B b p bs w → Apart b k w' := by
    rintro p ⟨_, v, hbk, _, _⟩
    refine ⟨Nat.lt_of_lt_of_le h.1 hb.size, h.2.1, fun v' hv' => ?_⟩
    have : BufAt b v w' := ⟨p, by rw [hb.block b (Array.getElem?_eq_some_iff.1 hbk).1]; exact hbk⟩
    obtain rfl := this.same hv'
    exact h.2.2 v ⟨p, hbk⟩
  exact hB.elim (key _) (key _)

end Go.Proofs.YtgchgdkpipanjaaGreatDoor

namespace Go.Proofs.YtgchgdkpipanjaaGreatDoor
open Go Go.RowKit

/-- The library's table of powers lies as its text lays it. -/
def PowTab (w : World) : Prop := Lib.TabIs Tryz.prog w "internal/strconv.uint64pow10" .u64 Lib.pow10Tab

theorem var?_below {w w' : World} (hb : Below w.heap.size w w') {n : String} {cs : Array Value} (h : w.var? Tryz.prog n = some cs) : w'.var? Tryz.prog n = some cs := by
  unfold World.var? at h ⊢
  cases hg : Tryz.prog.globalNamed n with
  | none => simp [hg] at h
  | some g =>
    simp only [hg, Option.bind_some] at h ⊢
    have hlt : g < w.heap.size := by
      rcases Nat.lt_or_ge g w.heap.size with h' | h'
      · exact h'
      · simp [Array.getElem?_eq_none h'] at h
    rw [hb.block g hlt]
    exact h
theorem PowTab.ext {w w' : World} (h : PowTab w) (hb : Below w.heap.size w w') : PowTab w' := var?_below hb h

theorem below_grow (w : World) (k : Nat) (os : Array Obj) : Below w.heap.size w (Sort.grow (w.drewN k) os) :=
  ⟨rfl, rfl, rfl, by show w.heap.size ≤ (w.heap ++ os).size; simp, fun i hi => by show (w.heap ++ os)[i]? = _; rw [Array.getElem?_append, if_pos hi]⟩

theorem itoa_any (n : Nat) (hn : n ≤ 9223372036854775807) (w : World) (ht : PowTab w) :
    Calls Tryz.prog 86 #[.int .i64 n] w fun e w' => ∃ t : ByteArray, e = .returned (.string t) ∧ Hid (bl t = Lib.decDigits n) ∧ t.size ≤ 21 ∧ Below w.heap.size w w' := by
  refine (Tryz.strconv_Itoa (n : Int) (by omega) (by omega) w ht).mono ?_
  rintro e w' ⟨rfl, k, os, rfl⟩
  have hs : (⟨(Lib.itoa (n : Int)).toArray⟩ : ByteArray).size ≤ 21 := by
    show ((Lib.itoa (n : Int)).toArray).size ≤ 21
    rw [List.size_toArray]
    exact Lib.itoa_length_le _ (by omega) (by omega)
  exact ⟨_, rfl, itoa_nat n, hs, below_grow w k os⟩
end Go.Proofs.YtgchgdkpipanjaaGreatDoor

namespace Go.Proofs.YtgchgdkpipanjaaGreatDoor
open Go Go.RowKit

set_option maxRecDepth 10000 in
theorem byte_any (c : Nat) (hc : c < 256) (w : World) :
    Calls Tryz.prog 206 #[.int .i64 c] w fun e w' => ∃ t : ByteArray, e = .returned (.string t) ∧ Hid (bl t = [UInt8.ofNat c]) ∧ Below w.heap.size w w' := by
  have hconv : (convert 157 9 (.slice (some ⟨w.heap.size, 0, none⟩) 1 1)).run Tryz.prog (w.alloc (Obj.cells #[Value.int IntKind.u8 c] 5)) = .ok (.string (strOfNums [(c : Int)])) (w.alloc (Obj.cells #[Value.int IntKind.u8 c] 5)) :=
    run_convert_bytes_arg (w.alloc (Obj.cells #[Value.int IntKind.u8 c] 5)) 157 5 Tryz.underlying157 Tryz.underlying5 w.heap.size 0 1 1 [(c : Int)] rfl (fun i hi => by
      obtain rfl : i = 0 := by omega
      rw [World.cell?_alloc_at _ _ _ _ rfl]; rfl) 9 Tryz.underlying9
  go_enter Tryz.func206, Tryz.ntmps206
  go_wp2
  clear hconv
  go_ret
  refine ⟨strOfNums [(c : Int)], rfl, ?_, (Below.refl _ _).alloc (Nat.le_refl _) _⟩
  show bl (strOfNums [(c : Int)]) = _
  exact (strOfNums_data _).trans (by simp)

theorem byte_int (i : Int) (c : Nat) (hi : i = (c : Int)) (hc : c < 256) (w : World) :
    Calls Tryz.prog 206 #[.int .i64 i] w fun e w' => ∃ t : ByteArray, e = .returned (.string t) ∧ Hid (bl t = [UInt8.ofNat c]) ∧ Below w.heap.size w w' := by
  subst hi; exact byte_any c hc w

theorem below_any : ∀ (n : Nat) (_ : n ≤ 9223372036854775807) (w : World),
    Calls Tryz.prog 162 #[.int .i64 (-(n : Int))] w fun e w' => ∃ t : ByteArray, e = .returned (.string t) ∧ Hid (bl t = Lib.decDigits n) ∧ Below w.heap.size w w' := by
  intro n
  induction n using Nat.strongRecOn with
  | _ n ih =>
    intro hn w
    by_cases h10 : n < 10
    · have hd : -10 < -(n : Int) := by omega
      have HD := Lib.hid (decDigits_small h10)
      clear ih
      go_enter Tryz.func162, Tryz.ntmps162
      go_wp2_with fail
      refine (byte_int _ (48 + n) (by omega) (by omega) _).mono ?_
      rintro e w' ⟨t, rfl, HT, hb⟩
      go_wp2_with fail
      go_ret
      exact ⟨t, rfl, by rw [HD.out]; exact HT, hb⟩
    · have hd : ¬ (-10 < -(n : Int)) := by omega
      have HD := Lib.hid (decDigits_step h10)
      have h1 := ih (n / 10) (by omega) (by omega)
      have H1 := Lib.hid h1
      clear ih h1
      go_enter Tryz.func162, Tryz.ntmps162
      go_wp2_with fail
      refine ((show Calls Tryz.prog _ #[.int .i64 (-((n : Int) / 10))] w _ from by have := H1.out w; rwa [show (((n / 10 : Nat)) : Int) = (n : Int) / 10 from by omega] at this)).mono ?_
      rintro e w1 ⟨t1, rfl, HT1, hb1⟩
      go_wp2_with fail
      refine (byte_int _ (48 + n % 10) (by omega) (by omega) _).mono ?_
      rintro e w2 ⟨t2, rfl, HT2, hb2⟩
      have hs1 : t1.size ≤ 21 := by
        rw [← bl_length, HT1.out]; exact decDigits_len _ (by omega)
      have hs2 : t2.size = 1 := by rw [← bl_length, HT2.out]; rfl
      have HS2 := Lib.hid hs2
      have hs3 : t2.size ≤ 1 := by omega
      clear hs2
      go_wp2_with fail
      go_ret
      exact ⟨t1 ++ t2, rfl, by rw [HD.out]; show bl (t1 ++ t2) = _; rw [bl_append, HT1.out, HT2.out], hb1.trans (hb2.mono hb1.size)⟩

theorem decimal_any (n : Nat) (hn : n ≤ 9223372036854775807) (w : World) :
    Calls Tryz.prog 114 #[.int .i64 n] w fun e w' => ∃ t : ByteArray, e = .returned (.string t) ∧ Hid (bl t = Lib.decDigits n) ∧ t.size ≤ 21 ∧ Below w.heap.size w w' := by
  go_enter Tryz.func114, Tryz.ntmps114
  go_wp2_with fail
  refine (below_any n hn w).mono ?_
  rintro e w1 ⟨t1, rfl, HT1, hb1⟩
  have hs1 : t1.size ≤ 21 := by rw [← bl_length, HT1.out]; exact decDigits_len _ hn
  go_wp2_with fail
  go_ret
  exact ⟨t1, rfl, HT1, hs1, hb1⟩
end Go.Proofs.YtgchgdkpipanjaaGreatDoor
