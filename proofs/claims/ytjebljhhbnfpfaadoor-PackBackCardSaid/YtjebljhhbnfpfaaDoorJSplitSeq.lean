/- strings.SplitSeq at one byte: its iterator by its contract. -/
import Derived.Test.YtjebljhhbnfpfaaDoorJRangeLaw
import Derived.Test.YtjebljhhbnfpfaaDoorJPlainly
import Derived.Test.YtjebljhhbnfpfaaDoorJShelf
import Derived.Test.YtjebljhhbnfpfaaDoorJRowed
import Derived.Lib.Hide
import Derived.Lib.IndexBytes
import Derived.IntWalk
namespace Go.Proofs.YtjebljhhbnfpfaaDoor
open Go Go.RowKit Go.Shelf
attribute [local go_sem] Oper.semAt_some

/-- A string of some length at most. -/
abbrev Piece := { x : ByteArray // x.size ≤ 1000000 }
def strs (l : List Piece) : List (List UInt8) := l.map fun x => bl x.1
theorem strs_snoc (l : List Piece) (x : Piece) : strs (l ++ [x]) = strs l ++ [bl x.1] := by simp [strs]

theorem ib_none {c : UInt8} {t : ByteArray} (h : Lib.indexByte t.data.toList c = -1) : c ∉ bl t := index_byte_none ((Lib.index_one (bl t) c).trans h)
theorem ib_hit {c : UInt8} {t : ByteArray} {i : Nat} (h : Lib.indexByte t.data.toList c = i) : c ∉ (bl t).take i ∧ i < t.size ∧ bl t = (bl t).take i ++ c :: (bl t).drop (i + 1) := by
  have := index_byte_hit ((Lib.index_one (bl t) c).trans h)
  rwa [bl_length] at this
theorem blEx (s : ByteArray) (i j : Nat) : bl (s.extract i j) = ((bl s).drop i).take (j - i) := by
  show (s.extract i j).data.toList = _
  rw [ByteArray.data_extract, Array.toList_extract, List.extract_eq_take_drop]
  rfl
/-- The length of the string in a cell. -/
def cellSize (w : World) (b : Nat) : Nat := match w.cell? ⟨b, 0, none⟩ with
  | some (.string r) => r.size
  | _ => 0

set_option maxHeartbeats 2000000 in
set_option maxRecDepth 100000 in
theorem splitOne_in (l Bs B : Nat) (s : ByteArray) (c : UInt8) (hs : s.size ≤ 1000000) (m : Nat) (J Jx : List Piece → World → Prop) (hJ : Calm B Bs J) (W : World)
    (hY : ∀ pre (x : Piece) W1, J pre W1 → pre.length < 1000001 → YieldAt Fence.wide (m - 1) Tryd.prog l #[.string x.1] W1 fun e W' => (e = .returned (.bool true) ∧ J (pre ++ [x]) W' ∧ Same Bs (Bs + 3) W1 W') ∨ (e = .returned (.bool false) ∧ Jx (pre ++ [x]) W'))
    (k1 : Boxed W Bs 9 (.string s)) (k2 : Boxed W (Bs + 1) 9 (.string ⟨#[c]⟩)) (k3 : Boxed W (Bs + 2) 3 (.int .i64 0)) (h0 : J [] W) :
    CallsIn Fence.wide m Tryd.prog 40 #[.func (.yield l) #[] #[], .pointer (some ⟨Bs + 1, 0, none⟩), .pointer (some ⟨Bs, 0, none⟩), .pointer (some ⟨Bs + 2, 0, none⟩)] W fun e W' =>
      (∃ v, e = .returned v) ∧ ((∃ xs, strs xs = cutL c (bl s) ∧ J xs W') ∨ (∃ pre, (∃ rest, strs pre ++ rest = cutL c (bl s)) ∧ Jx pre W')) := by
  refine callsIn_of_wp Tryd.func40 rfl trivial ?_ rfl
  simp only [Tryd.ntmps40, List.size_toArray, List.length_cons, List.length_nil, Nat.reduceAdd, Nat.reduceSub, Array.replicate_succ, Array.replicate_zero, List.push_toArray, List.append_toArray, List.nil_append, List.cons_append]
  have q1 := k1.cell; have q2 := k2.cell; have q3 := k3.cell
  gi_wp2
  gi_loopw [7, 8] (fun _ _ wr => ∃ (pre : List Piece) (t : ByteArray), pre.length + t.size ≤ s.size ∧ J pre wr ∧ Boxed wr Bs 9 (.string t) ∧ Boxed wr (Bs + 1) 9 (.string ⟨#[c]⟩) ∧ Boxed wr (Bs + 2) 3 (.int .i64 0) ∧ Hid (cutL c (bl s) = strs pre ++ cutL c (bl t)))
    (fun _ _ wr => cellSize wr Bs)
  case atStart => exact ⟨[], s, by simp, h0, k1, k2, k3, rfl⟩
  case round =>
    obtain ⟨pre, t, ht, hJ1, b1, b2, b3, HC⟩ := hrel
    clear q1 q2 q3
    have c1 := b1.cell; have c2 := b2.cell; have c3 := b3.cell; have f1 := b1.frozen
    by_cases hn : Lib.indexByte t.data.toList c = -1
    · obtain ⟨fn, tmps, assign, body, hy, hR⟩ := hY pre ⟨t, by omega⟩ wr hJ1 (by omega)
      dsimp only at hy
      have HZ : Hid (strs (pre ++ [⟨t, by omega⟩]) = cutL c (bl s)) := by
        show _ = _
        rw [strs_snoc, HC.out, cutL_no (ib_none hn)]
      have HN := Lib.hid hn
      clear HC hn
      gi_wp2_with (refine ⟨trivial, fun h => absurd h (by decide), ?_⟩; gi_at_call 42; refine (callsIn_wide.2 (Tryd.strings_Index_one t c _)).mono ?_; rintro e w' ⟨rfl, rfl⟩; rw [HN.out])
      refine ⟨fun h => absurd h (by decide), hR.mono ?_⟩
      rintro e W3 (⟨rfl, hJ3, hk3⟩ | ⟨rfl, hJx3⟩)
      · gi_wp2
        go_end0
        exact ⟨⟨_, rfl⟩, .inl ⟨_, HZ.out, hJ3⟩⟩
      · gi_wp2
        go_end0
        exact ⟨⟨_, rfl⟩, .inr ⟨_, ⟨[], by rw [HZ.out, List.append_nil]⟩, hJx3⟩⟩
    · have hge := Lib.indexByte_ge t.data.toList c
      obtain ⟨i, hi⟩ : ∃ i : Nat, Lib.indexByte t.data.toList c = i := ⟨(Lib.indexByte t.data.toList c).toNat, by omega⟩
      obtain ⟨g1, g2, g3⟩ := ib_hit hi
      have sl1 := slice_to t (i : Int) i (by omega) rfl
      have sl2 := slice_from t ((i : Int) + 1) (i + 1) (by omega) (by omega)
      have z1 : (t.extract 0 i).size ≤ 1000000 := by rw [ByteArray.size_extract]; omega
      have z2 : (t.extract (i + 1) t.size).size < t.size := by rw [ByteArray.size_extract]; omega
      obtain ⟨fn, tmps, assign, body, hy, hR⟩ := hY pre ⟨t.extract 0 i, z1⟩ wr hJ1 (by omega)
      dsimp only at hy
      have HC2 : Hid (cutL c (bl s) = strs (pre ++ [⟨t.extract 0 i, z1⟩]) ++ cutL c (bl (t.extract (i + 1) t.size))) := by
        show _ = _
        have e1 : bl (t.extract 0 i) = (bl t).take i := by rw [blEx]; simp
        have e2 : bl (t.extract (i + 1) t.size) = (bl t).drop (i + 1) := by rw [blEx, List.take_of_length_le (by rw [List.length_drop, bl_length]; omega)]
        rw [strs_snoc, e1, e2, HC.out]
        conv => lhs; rw [g3]
        rw [cutL_app, cutL_no g1, List.append_assoc]
      have HN := Lib.hid hi
      clear HC hi hn hge g1 g3
      gi_wp2_with (refine ⟨trivial, fun h => absurd h (by decide), ?_⟩; gi_at_call 42; refine (callsIn_wide.2 (Tryd.strings_Index_one t c _)).mono ?_; rintro e w' ⟨rfl, rfl⟩; rw [HN.out])
      refine ⟨fun h => absurd h (by decide), hR.mono ?_⟩
      rintro e W3 (⟨rfl, hJ3, hk3⟩ | ⟨rfl, hJx3⟩)
      · have d1 : Boxed W3 Bs 9 (.string t) := (hk3 Bs (by omega) (by omega)).trans b1
        have d2 : Boxed W3 (Bs + 1) 9 (.string ⟨#[c]⟩) := (hk3 (Bs + 1) (by omega) (by omega)).trans b2
        have d3 : Boxed W3 (Bs + 2) 3 (.int .i64 0) := (hk3 (Bs + 2) (by omega) (by omega)).trans b3
        clear c1 c2 c3 f1
        have c1 := d1.cell; have c2 := d2.cell; have c3 := d3.cell; have f1 := d1.frozen
        gi_wp2
        go_roundw
        case rel => exact ⟨_, t.extract (i + 1) t.size, by rw [List.length_append, List.length_singleton]; omega, hJ.set _ hJ3, d1.set _, d2.kept (grownBy_setCell' _ _ _) (by simp), d3.kept (grownBy_setCell' _ _ _) (by simp), HC2⟩
        case measure =>
          unfold cellSize
          rw [b1.cell, (d1.set _).cell]; exact z2
      · gi_wp2
        refine bodyPost_ret (results_none rfl _ _ _) rfl ?_
        exact ⟨⟨_, rfl⟩, .inr ⟨_, ⟨_, HC2.out.symm⟩, hJx3⟩⟩
end Go.Proofs.YtjebljhhbnfpfaaDoor
