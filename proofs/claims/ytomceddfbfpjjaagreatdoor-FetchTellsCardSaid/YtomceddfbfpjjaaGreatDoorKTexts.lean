/- (*strings.Builder).copyCheck, WriteByte, WriteString by their contracts (the shelf's own fall at this translation: it bears no panic's text): after the shelf's proofs, at this program's numbers. (*strings.Builder).WriteString, with what it leaves of the blocks behind the builder's: contracts. strconv.Itoa at a number from 0 on, its result behind a name. chandleryref1.Byte, below, Decimal by their contracts. -/
import Derived.Test.YtomceddfbfpjjaaGreatDoorProg
import Derived.WalkKit
import Derived.Lib.Builder
import Derived.Lib.AppendStr
import Derived.Lib.UnsafeStr
import Derived.Lib.Hide
import Derived.Deep.Draws
import Derived.Test.YtomceddfbfpjjaaGreatDoorKShelf
import Derived.Test.YtomceddfbfpjjaaGreatDoorKPlainly
import Derived.Lib.LaidTab
import Derived.Test.YtomceddfbfpjjaaGreatDoorKRowed
import Derived.Deep.RegionWith
import Derived.IntWalk
namespace Go.Proofs.YtomceddfbfpjjaaGreatDoor
open Go Go.RowKit

theorem Tryz.sizeBuilder : (Tryz.prog.info? 152).map (·.size) = some 2 := by kernel_rfl
theorem Tryz.liesBuilder : liesAt Tryz.prog Tryz.prog.depth 152 (2 / Tryz.prog.cellsOf 152) 0 152 1 = true := by kernel_rfl
theorem Tryz.infoByte : (Tryz.prog.info? 5).map (fun i => (i.zero, i.size, i.bytes)) = some (some (.int .u8 0), 1, 1) := by kernel_rfl

/-- A builder of the call's own, from block B on, that holds the bytes bs. -/
abbrev IsB (B b : Nat) (bs : List Value) (w : World) : Prop := Lib.IsBuilder 152 5 B b bs w
abbrev BAt (B b : Nat) (bs : List Value) (w : World) : Prop := Lib.BuilderAt 152 5 B b (.pointer (some ⟨b, 0, none⟩)) bs w

set_option maxRecDepth 100000 in
theorem copyCheck_used (b : Nat) (w : World) (h0 : w.cell? ⟨b, 0, none⟩ = some (.pointer (some ⟨b, 0, none⟩))) :
    Calls Tryz.prog 114 #[.pointer (some ⟨b, 0, none⟩)] w fun e w' => e = .returned (.tuple #[]) ∧ w' = w := by
  obtain ⟨j, hj, _⟩ := Option.map_eq_some_iff.1 Tryz.sizeBuilder
  go_enter Tryz.func114, Tryz.ntmps114
  go_wp2
  rw [Lib.run_neq_ptr_same w _ Tryz.underlying149 hj]
  go_wp2
  go_end0
  exact ⟨rfl, rfl⟩

set_option maxHeartbeats 1000000 in
set_option maxRecDepth 100000 in
theorem copyCheck_fresh (b : Nat) (w : World) (h0 : w.cell? ⟨b, 0, none⟩ = some (.pointer none)) (hsh : w.shape? b = some (152, 2)) (hfz : w.frozen? ⟨b, 0, none⟩ = false) :
    Calls Tryz.prog 114 #[.pointer (some ⟨b, 0, none⟩)] w fun e w' => e = .returned (.tuple #[]) ∧ w' = w.setCell ⟨b, 0, none⟩ (.pointer (some ⟨b, 0, none⟩)) := by
  obtain ⟨j, hj, hjs⟩ := Option.map_eq_some_iff.1 Tryz.sizeBuilder
  go_enter Tryz.func114, Tryz.ntmps114
  go_wp2
  rw [Lib.run_to_unsafe w ⟨b, 0, none⟩ Tryz.underlying149 Tryz.underlying168 hj (by rw [hjs]; decide) hsh (Nat.zero_lt_succ 1)]
  simp only [Result.andThen]
  rw [Oper.upon_value]
  go_wp2
  rw [run_callFunc_extern Tryz.func143 (by kernel_rfl) (by kernel_rfl) (by kernel_rfl) (e := Extern.AbiNoEscape.same) (by kernel_rfl)]
  rw [Lib.run_noEscape]
  simp only [Result.andThen]
  rw [Oper.upon_value]
  go_wp2
  rw [Lib.run_from_unsafe w ⟨b, 0, none⟩ Tryz.underlying168 Tryz.underlying149 hj hsh Tryz.liesBuilder]
  simp only [Result.andThen]
  rw [Oper.upon_value]
  go_wp2
  go_end0
  exact ⟨rfl, rfl⟩

/-- What the call goes on to make elsewhere leaves the builder. -/
theorem isB_below {B b : Nat} {bs : List Value} {w w' : World} (hb : Below w.heap.size w w') (h : IsB B b bs w) : IsB B b bs w' := by
  have hg : w.grownBy w' none := ⟨hb.os, hb.tape, hb.output, hb.size, fun k hk _ => hb.block k hk⟩
  have key : ∀ p, Lib.BuilderAt 152 5 B b p bs w → Lib.BuilderAt 152 5 B b p bs w' := fun p ⟨h1, v, h2, h3, h4⟩ =>
    ⟨h1, v, by rw [hb.block b (Array.getElem?_eq_some_iff.1 h2).1]; exact h2, h3.kept hg (by cases v.ownBlock <;> simp), h4⟩
  exact h.imp (key _) (key _)

theorem copyCheck_any (B b : Nat) (bs : List Value) (w : World) (h : IsB B b bs w) :
    Calls Tryz.prog 114 #[.pointer (some ⟨b, 0, none⟩)] w fun e w' => e = .returned (.tuple #[]) ∧ BAt B b bs w' ∧ Below B w w' := by
  rcases h with h | h
  · refine (copyCheck_fresh b w h.cell0 h.shape h.frozen0).mono ?_
    rintro e w' ⟨rfl, rfl⟩
    exact ⟨rfl, h.used _, (Below.refl B w).setCell (p := ⟨b, 0, none⟩) h.1 _⟩
  · refine (copyCheck_used b w h.cell0).mono ?_
    rintro e w' ⟨rfl, rfl⟩
    exact ⟨rfl, h, Below.refl B _⟩

set_option maxHeartbeats 1000000 in
set_option maxRecDepth 100000 in
theorem writeByte_any (B b : Nat) (bs : List Value) (c : Int) (w : World) (h : IsB B b bs w) (hlen : bs.length + 1 ≤ 140737488355328) (hBw : B ≤ w.heap.size) :
    Calls Tryz.prog 159 #[.pointer (some ⟨b, 0, none⟩), .int .u8 c] w fun e w' => e = .returned .nilIface ∧ BAt B b (bs ++ [.int .u8 c]) w' ∧ Below B w w' := by
  obtain ⟨i0, hi, hz0, hz1, hz2⟩ := info_parts Tryz.infoByte
  go_enter Tryz.func159, Tryz.ntmps159
  go_wp2_with (go_at_call 114; refine (copyCheck_any B b bs _ h).mono ?_)
  rintro e w1 ⟨rfl, h1, hb1⟩
  obtain ⟨hB, v, hbk, hown, hne⟩ := h1
  have c0 : w1.cell? ⟨b, 0, none⟩ = some (.pointer (some ⟨b, 0, none⟩)) := by rw [Lib.cell_of_heap hbk]; rfl
  have c1 : w1.cell? ⟨b, 1, none⟩ = some v := by rw [Lib.cell_of_heap hbk]; rfl
  go_wp2_with (at_builtin; refine wpList_append_own _ rfl _ _ 150 rfl B 5 i0 (.int .u8 0) 1 1 Tryz.underlying150 hi hz0 hz1 hz2 rfl (by decide) _ _ _ rfl (hown.alloc _) ⟨w1.heap.size, 0, none⟩ 1 1 [.int .u8 c] rfl rfl ?c1 ?c2 ?c3 ?c4 ?c5 ?_)
  case c1 =>
    intro j u hj
    match j, hj with
    | 0, hj => simp at hj; subst hj; simp [Addr.add]
  case c2 => intro u hu; simp at hu; subst hu; rfl
  case c3 => unfold maxLen; omega
  case c4 => omega
  case c5 => have := hb1.size; simp; omega
  intro v' w2 hown' hgrow _
  have hlt : b < w1.heap.size := (Array.getElem?_eq_some_iff.1 hbk).1
  have hb2 : w2.heap[b]? = some (.cells #[.pointer (some ⟨b, 0, none⟩), v] 152 (0, 0)) := by
    rw [hgrow.block b (by simp; omega) (fun e => hne e.symm), Lib.alloc_old w1 _ b hlt]
    exact hbk
  have d0 : w2.cell? ⟨b, 0, none⟩ = some (.pointer (some ⟨b, 0, none⟩)) := by rw [Lib.cell_of_heap hb2]; rfl
  have d1 : w2.cell? ⟨b, 1, none⟩ = some v := by rw [Lib.cell_of_heap hb2]; rfl
  have f1 : w2.frozen? ⟨b, 1, none⟩ = false := Lib.frozen_of_heap hb2 1
  obtain ⟨g, cap, rfl⟩ : ∃ g cap, v' = .slice (some ⟨g, 0, none⟩) (bs.length + 1) cap := by
    rcases hown'.2 with ⟨_, h0⟩ | ⟨g, cap, cur, hv, _⟩
    · omega
    · exact ⟨g, cap, hv⟩
  go_wp2
  go_ret
  refine ⟨rfl, ?_, ?_⟩
  · exact Lib.BuilderAt.put (T := 152) (e := 5) hB hb2 (bs' := bs ++ [.int .u8 c]) (by simpa using hown') (by decide)
  · exact ((hb1.alloc (by have := hb1.size; omega) _).grown hgrow (by have := hb1.size; simp; omega) (fun k hk => (hown.lt k hk).1)).setCell (p := ⟨b, 1, none⟩) hB _

/-- 'var b strings.Builder' just laid. -/
theorem isB_new (w : World) (B : Nat) (hB : B ≤ w.heap.size) : IsB B w.heap.size [] (w.alloc (.cells #[.pointer none, .slice none 0 0] 152)) :=
  .inl ⟨hB, .slice none 0 0, heap_alloc_new w _, World.ownsRow_nil _ _ _ _, by simp [Value.ownBlock]⟩
end Go.Proofs.YtomceddfbfpjjaaGreatDoor

namespace Go.Proofs.YtomceddfbfpjjaaGreatDoor
open Go Go.RowKit

/-- The builder's buffer is v. -/
def BufAt (b : Nat) (v : Value) (w : World) : Prop := ∃ p, w.heap[b]? = some (.cells #[p, v] 152 (0, 0))
theorem BufAt.same {b : Nat} {v v' : Value} {w : World} (h : BufAt b v w) (h' : BufAt b v' w) : v = v' := by
  obtain ⟨p, h⟩ := h
  obtain ⟨p', h'⟩ := h'
  rw [h] at h'
  injection h' with h'
  injection h' with h1 h2 h3
  have := congrArg (fun a => a[1]?) h1
  simpa using this
/-- A block is none of the builder's. -/
def Apart (b k : Nat) (w : World) : Prop := k < w.heap.size ∧ k ≠ b ∧ ∀ v, BufAt b v w → v.ownBlock ≠ some k
theorem apart_new {B b : Nat} {bs : List Value} {w w' : World} {k : Nat} (h : IsB B b bs w) (hb : Below w.heap.size w w') (h1 : w.heap.size ≤ k) (h2 : k < w'.heap.size) : Apart b k w' := by
  have key : ∀ p, Lib.BuilderAt 152 5 B b p bs w → Apart b k w' := by
    rintro p ⟨hB, v, hbk, hown, hne⟩
    have hlt : b < w.heap.size := (Array.getElem?_eq_some_iff.1 hbk).1
    refine ⟨h2, by omega, fun v' hv' => ?_⟩
    have : BufAt b v w' := ⟨p, by rw [hb.block b hlt]; exact hbk⟩
    obtain rfl := this.same hv'
    intro e
    have := (hown.lt k e).2
    omega
  exact h.elim (key _) (key _)
theorem Apart.ext {b k : Nat} {bs : List Value} {B : Nat} {w w' : World} (h : Apart b k w) (hB : IsB B b bs w) (hb : Below w.heap.size w w') : Apart b k w' := by
  have key : ∀ p, Lib.BuilderAt 152 5 B b p bs w → Apart b k w' := by
    rintro p ⟨_, v, hbk, _, _⟩
    refine ⟨Nat.lt_of_lt_of_le h.1 hb.size, h.2.1, fun v' hv' => ?_⟩
    have : BufAt b v w' := ⟨p, by rw [hb.block b (Array.getElem?_eq_some_iff.1 hbk).1]; exact hbk⟩
    obtain rfl := this.same hv'
    exact h.2.2 v ⟨p, hbk⟩
  exact hB.elim (key _) (key _)

theorem copyCheck_keep (B b : Nat) (bs : List Value) (w : World) (h : IsB B b bs w) (k : Nat) (hk : Apart b k w) :
    Calls Tryz.prog 114 #[.pointer (some ⟨b, 0, none⟩)] w fun e w' => e = .returned (.tuple #[]) ∧ BAt B b bs w' ∧ Below B w w' ∧ w'.heap[k]? = w.heap[k]? ∧ Apart b k w' := by
  rcases h with h | h
  · refine (copyCheck_fresh b w h.cell0 h.shape h.frozen0).mono ?_
    rintro e w' ⟨rfl, rfl⟩
    refine ⟨rfl, h.used _, (Below.refl B w).setCell (p := ⟨b, 0, none⟩) h.1 _, Below.heap_setCell _ _ _ _ hk.2.1, by simpa [World.setCell] using hk.1, hk.2.1, fun v hv => ?_⟩
    obtain ⟨_, v0, hb0, _, _⟩ := h
    have : BufAt b v0 (w.setCell ⟨b, 0, none⟩ (.pointer (some ⟨b, 0, none⟩))) := ⟨.pointer (some ⟨b, 0, none⟩), by simp [World.setCell, Array.getElem?_modify, hb0]⟩
    obtain rfl := this.same hv
    exact hk.2.2 v0 ⟨_, hb0⟩
  · refine (copyCheck_used b w h.cell0).mono ?_
    rintro e w' ⟨rfl, rfl⟩
    exact ⟨rfl, h, Below.refl B _, rfl, hk⟩

set_option maxHeartbeats 2000000 in
set_option maxRecDepth 100000 in
theorem writeString_keep (B b : Nat) (bs : List Value) (s : ByteArray) (w : World) (h : IsB B b bs w) (hlen : bs.length + s.size ≤ 140737488355328) (hBw : B ≤ w.heap.size) (k : Nat) (hk : Apart b k w) :
    Calls Tryz.prog 83 #[.pointer (some ⟨b, 0, none⟩), .string s] w fun e w' => e = .returned (.tuple #[.int .i64 s.size, .nilIface]) ∧ BAt B b (bs ++ Lib.strCells s) w' ∧ Below B w w' ∧ w'.heap[k]? = w.heap[k]? := by
  obtain ⟨i0, hi, hz0, hz1, hz2⟩ := info_parts Tryz.infoByte
  go_enter Tryz.func83, Tryz.ntmps83
  go_wp2_with (go_at_call 114; refine (copyCheck_keep B b bs _ h k hk).mono ?_)
  rintro e w1 ⟨rfl, h1, hb1, hk1, hk2⟩
  obtain ⟨hB, v, hbk, hown, hne⟩ := h1
  have c0 : w1.cell? ⟨b, 0, none⟩ = some (.pointer (some ⟨b, 0, none⟩)) := by rw [Lib.cell_of_heap hbk]; rfl
  have c1 : w1.cell? ⟨b, 1, none⟩ = some v := by rw [Lib.cell_of_heap hbk]; rfl
  go_wp2_with (at_builtin; refine Lib.wpList_append_own_string _ rfl _ _ 150 9 rfl B 5 i0 Tryz.underlying150 Tryz.underlying9 hi hz0 hz1 hz2 _ _ _ rfl hown s rfl ?c3 ?c4 ?c5 ?_)
  case c3 => unfold maxLen; omega
  case c4 => omega
  case c5 => have := hb1.size; omega
  intro v' w2 hown' hgrow _
  have hlt : b < w1.heap.size := (Array.getElem?_eq_some_iff.1 hbk).1
  have hb2 : w2.heap[b]? = some (.cells #[.pointer (some ⟨b, 0, none⟩), v] 152 (0, 0)) := by
    rw [hgrow.block b hlt (fun e => hne e.symm)]
    exact hbk
  have hkk : w2.heap[k]? = w.heap[k]? := by
    rw [hgrow.block k hk2.1 (fun e => hk2.2.2 v ⟨_, hbk⟩ e.symm)]
    exact hk1
  have d0 : w2.cell? ⟨b, 0, none⟩ = some (.pointer (some ⟨b, 0, none⟩)) := by rw [Lib.cell_of_heap hb2]; rfl
  have d1 : w2.cell? ⟨b, 1, none⟩ = some v := by rw [Lib.cell_of_heap hb2]; rfl
  have f1 : w2.frozen? ⟨b, 1, none⟩ = false := Lib.frozen_of_heap hb2 1
  obtain ⟨ao, n', cap, rfl⟩ : ∃ ao n' cap, v' = .slice ao n' cap := by
    rcases hown'.2 with ⟨hv, _⟩ | ⟨g, cap, cur, hv, _⟩
    · exact ⟨_, _, _, hv⟩
    · exact ⟨_, _, _, hv⟩
  have HKK := Lib.hid hkk
  clear hk1 hkk
  go_wp2
  go_ret2
  refine ⟨rfl, ?_, ?_, ?_⟩
  · exact Lib.BuilderAt.put (T := 152) (e := 5) hB hb2 (bs' := bs ++ Lib.strCells s) (by simpa [Lib.strCells_length] using hown') (by decide)
  · exact (hb1.grown hgrow (by have := hb1.size; omega) (fun k hk => (hown.lt k hk).1)).setCell (p := ⟨b, 1, none⟩) hB _
  · exact (Below.heap_setCell _ _ _ _ hk2.2.1).trans HKK.out
end Go.Proofs.YtomceddfbfpjjaaGreatDoor

namespace Go.Proofs.YtomceddfbfpjjaaGreatDoor
open Go Go.RowKit

/-- The library's table of powers lies as its text lays it. -/
def PowTab (w : World) : Prop := Lib.TabIs Tryz.prog w "internal/strconv.uint64pow10" .u64 Lib.pow10Tab

theorem var?_below {w w' : World} (hb : Below w.heap.size w w') {n : String} {cs : Array Value} (h : w.var? Tryz.prog n = some cs) : w'.var? Tryz.prog n = some cs := by
  unfold World.var? at h ⊢
  cases hg : Tryz.prog.globalNamed n with
  | none => simp [hg] at h
  | some g =>
    simp only [hg, Option.bind_some] at h ⊢
    have hlt : g < w.heap.size := by
      rcases Nat.lt_or_ge g w.heap.size with h' | h'
      · exact h'
      · simp [Array.getElem?_eq_none h'] at h
    rw [hb.block g hlt]
    exact h
theorem PowTab.ext {w w' : World} (h : PowTab w) (hb : Below w.heap.size w w') : PowTab w' := var?_below hb h

theorem below_grow (w : World) (k : Nat) (os : Array Obj) : Below w.heap.size w (Sort.grow (w.drewN k) os) :=
  ⟨rfl, rfl, rfl, by show w.heap.size ≤ (w.heap ++ os).size; simp, fun i hi => by show (w.heap ++ os)[i]? = _; rw [Array.getElem?_append, if_pos hi]⟩

theorem itoa_any (n : Nat) (hn : n ≤ 9223372036854775807) (w : World) (ht : PowTab w) :
    Calls Tryz.prog 84 #[.int .i64 n] w fun e w' => ∃ t : ByteArray, e = .returned (.string t) ∧ Hid (bl t = Lib.decDigits n) ∧ t.size ≤ 21 ∧ Below w.heap.size w w' := by
  refine (Tryz.strconv_Itoa (n : Int) (by omega) (by omega) w ht).mono ?_
  rintro e w' ⟨rfl, k, os, rfl⟩
  have hs : (⟨(Lib.itoa (n : Int)).toArray⟩ : ByteArray).size ≤ 21 := by
    show ((Lib.itoa (n : Int)).toArray).size ≤ 21
    rw [List.size_toArray]
    exact Lib.itoa_length_le _ (by omega) (by omega)
  exact ⟨_, rfl, itoa_nat n, hs, below_grow w k os⟩
end Go.Proofs.YtomceddfbfpjjaaGreatDoor

namespace Go.Proofs.YtomceddfbfpjjaaGreatDoor
open Go Go.RowKit

set_option maxRecDepth 10000 in
theorem byte_any (c : Nat) (hc : c < 256) (w : World) :
    Calls Tryz.prog 161 #[.int .i64 c] w fun e w' => ∃ t : ByteArray, e = .returned (.string t) ∧ Hid (bl t = [UInt8.ofNat c]) ∧ Below w.heap.size w w' := by
  have hconv : (convert 150 9 (.slice (some ⟨w.heap.size, 0, none⟩) 1 1)).run Tryz.prog (w.alloc (Obj.cells #[Value.int IntKind.u8 c] 5)) = .ok (.string (strOfNums [(c : Int)])) (w.alloc (Obj.cells #[Value.int IntKind.u8 c] 5)) :=
    run_convert_bytes_arg (w.alloc (Obj.cells #[Value.int IntKind.u8 c] 5)) 150 5 Tryz.underlying150 Tryz.underlying5 w.heap.size 0 1 1 [(c : Int)] rfl (fun i hi => by
      obtain rfl : i = 0 := by omega
      rw [World.cell?_alloc_at _ _ _ _ rfl]; rfl) 9 Tryz.underlying9
  go_enter Tryz.func161, Tryz.ntmps161
  go_wp2
  clear hconv
  go_ret
  refine ⟨strOfNums [(c : Int)], rfl, ?_, (Below.refl _ _).alloc (Nat.le_refl _) _⟩
  show bl (strOfNums [(c : Int)]) = _
  exact (strOfNums_data _).trans (by simp)

theorem byte_int (i : Int) (c : Nat) (hi : i = (c : Int)) (hc : c < 256) (w : World) :
    Calls Tryz.prog 161 #[.int .i64 i] w fun e w' => ∃ t : ByteArray, e = .returned (.string t) ∧ Hid (bl t = [UInt8.ofNat c]) ∧ Below w.heap.size w w' := by
  subst hi; exact byte_any c hc w

theorem below_any : ∀ (n : Nat) (_ : n ≤ 9223372036854775807) (w : World),
    Calls Tryz.prog 137 #[.int .i64 (-(n : Int))] w fun e w' => ∃ t : ByteArray, e = .returned (.string t) ∧ Hid (bl t = Lib.decDigits n) ∧ Below w.heap.size w w' := by
  intro n
  induction n using Nat.strongRecOn with
  | _ n ih =>
    intro hn w
    by_cases h10 : n < 10
    · have hd : -10 < -(n : Int) := by omega
      have HD := Lib.hid (decDigits_small h10)
      clear ih
      go_enter Tryz.func137, Tryz.ntmps137
      go_wp2_with fail
      refine (byte_int _ (48 + n) (by omega) (by omega) _).mono ?_
      rintro e w' ⟨t, rfl, HT, hb⟩
      go_wp2_with fail
      go_ret
      exact ⟨t, rfl, by rw [HD.out]; exact HT, hb⟩
    · have hd : ¬ (-10 < -(n : Int)) := by omega
      have HD := Lib.hid (decDigits_step h10)
      have h1 := ih (n / 10) (by omega) (by omega)
      have H1 := Lib.hid h1
      clear ih h1
      go_enter Tryz.func137, Tryz.ntmps137
      go_wp2_with fail
      refine ((show Calls Tryz.prog _ #[.int .i64 (-((n : Int) / 10))] w _ from by have := H1.out w; rwa [show (((n / 10 : Nat)) : Int) = (n : Int) / 10 from by omega] at this)).mono ?_
      rintro e w1 ⟨t1, rfl, HT1, hb1⟩
      go_wp2_with fail
      refine (byte_int _ (48 + n % 10) (by omega) (by omega) _).mono ?_
      rintro e w2 ⟨t2, rfl, HT2, hb2⟩
      have hs1 : t1.size ≤ 21 := by
        rw [← bl_length, HT1.out]; exact decDigits_len _ (by omega)
      have hs2 : t2.size = 1 := by rw [← bl_length, HT2.out]; rfl
      have HS2 := Lib.hid hs2
      have hs3 : t2.size ≤ 1 := by omega
      clear hs2
      go_wp2_with fail
      go_ret
      exact ⟨t1 ++ t2, rfl, by rw [HD.out]; show bl (t1 ++ t2) = _; rw [bl_append, HT1.out, HT2.out], hb1.trans (hb2.mono hb1.size)⟩

theorem decimal_any (n : Nat) (hn : n ≤ 9223372036854775807) (w : World) :
    Calls Tryz.prog 104 #[.int .i64 n] w fun e w' => ∃ t : ByteArray, e = .returned (.string t) ∧ Hid (bl t = Lib.decDigits n) ∧ t.size ≤ 21 ∧ Below w.heap.size w w' := by
  go_enter Tryz.func104, Tryz.ntmps104
  go_wp2_with fail
  refine (below_any n hn w).mono ?_
  rintro e w1 ⟨t1, rfl, HT1, hb1⟩
  have hs1 : t1.size ≤ 21 := by rw [← bl_length, HT1.out]; exact decDigits_len _ hn
  go_wp2_with fail
  go_ret
  exact ⟨t1, rfl, HT1, hs1, hb1⟩
end Go.Proofs.YtomceddfbfpjjaaGreatDoor
