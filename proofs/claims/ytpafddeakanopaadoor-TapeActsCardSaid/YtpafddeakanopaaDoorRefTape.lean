/- The reference's tape: Record, Append, SetCut, Recover by their contracts. -/
import Derived.Test.YtpafddeakanopaaDoorDecimal
import Derived.Test.YtpafddeakanopaaDoorTapeOps
import Derived.Test.YtpafddeakanopaaDoorRefRead
import Derived.Lib.OwnKind
namespace Go.Proofs.YtpafddeakanopaaDoor
open Go Go.RowKit

set_option maxRecDepth 100000 in
theorem refRecord_any (s : ByteArray) (w : World) (hs : s.size ≤ 100000000) :
    Calls Tryd.prog 49 #[.string s] w fun e w' => (∃ x : ByteArray, e = .returned (.string x) ∧ Hid (bl x = recL (bl s)) ∧ x.size = (recL (bl s)).length) ∧ Below w.heap.size w w' := by
  have hsl : (bl s).length = s.size := bl_length s
  go_enter Tryd.func49, Tryd.ntmps49
  go_wp2_with fail
  refine (decimal_any s.size (by omega) w).mono ?_
  rintro e w1 ⟨t, rfl, HT, hts, hb⟩
  go_wp2_with fail
  go_ret
  have hx : bl (t ++ ⟨#[58]⟩ ++ s ++ ⟨#[10, 46]⟩) = recL (bl s) := by
    unfold recL
    rw [hsl, ← HT.out]
    simp [bl]
  exact ⟨⟨_, rfl, hx, by rw [← hx, bl_length]⟩, hb⟩

/-- The reference's tape, a block of its own. -/
def RTapeIs (w : World) (m : Nat) (b : ByteArray) (off : Bool) (c : Int) : Prop :=
  w.heap[m]? = some (.cells #[.string b, .bool off, .int .i64 c] 51 (0, 0))
/-- What a call that works on it leaves: all but it. -/
structure But (m : Nat) (w w' : World) : Prop where
  os : w'.os = w.os
  tape : w'.tape = w.tape
  output : w'.output = w.output
  size : w.heap.size ≤ w'.heap.size
  block : ∀ k, k < w.heap.size → k ≠ m → w'.heap[k]? = w.heap[k]?
theorem But.refl (m : Nat) (w : World) : But m w w := ⟨rfl, rfl, rfl, Nat.le_refl _, fun _ _ _ => rfl⟩
theorem But.trans {m : Nat} {a b c : World} (h : But m a b) (k : But m b c) : But m a c :=
  ⟨k.os.trans h.os, k.tape.trans h.tape, k.output.trans h.output, Nat.le_trans h.size k.size, fun i hi hm => (k.block i (Nat.lt_of_lt_of_le hi h.size) hm).trans (h.block i hi hm)⟩
theorem But.of {m : Nat} {w w' : World} (h : Below w.heap.size w w') : But m w w' := ⟨h.os, h.tape, h.output, h.size, fun k hk _ => h.block k hk⟩
theorem But.below {m B : Nat} {w w' : World} (h : But m w w') (hB : B ≤ m) (hw : B ≤ w.heap.size) : Below B w w' := ⟨h.os, h.tape, h.output, h.size, fun k hk => h.block k (by omega) (by omega)⟩
theorem But.cell {m : Nat} {w w' : World} (h : But m w w') {p : Addr} (hp : p.block < w.heap.size) (hm : p.block ≠ m) : w'.cell? p = w.cell? p := by
  unfold World.cell?
  rw [h.block p.block hp hm]
theorem rtape_put {w : World} {m : Nat} {cs : Array Value} (hb : w.heap[m]? = some (.cells cs 51 (0, 0))) (j : Nat) (x : Value) :
    (w.setCell ⟨m, j, none⟩ x).heap[m]? = some (.cells (cs.setIfInBounds j x) 51 (0, 0)) ∧ But m w (w.setCell ⟨m, j, none⟩ x) :=
  ⟨by simp [World.setCell, Array.getElem?_modify, hb], rfl, rfl, rfl, by simp [World.setCell], fun k _ hk => Below.heap_setCell _ _ _ _ (fun e => hk (by simp [e]))⟩

/-- What SetCut answers and leaves. -/
def setCutR (off : Bool) (c n : Int) : Int × Bool × Int := if n < 0 then (2, off, c) else if off = true then (13, true, c) else (0, false, n)
def RPost (m : Nat) (b : ByteArray) (r : Int × Bool × Int) (w : World) (e : Ending) (w' : World) : Prop :=
  e = .returned (.int .i64 r.1) ∧ RTapeIs w' m b r.2.1 r.2.2 ∧ But m w w'

set_option maxRecDepth 100000 in
theorem refSetCut_any (m : Nat) (b : ByteArray) (off : Bool) (c n : Int) (w : World) (h : RTapeIs w m b off c) :
    Calls Tryd.prog 26 #[.pointer (some ⟨m, 0, none⟩), .int .i64 n] w (RPost m b (setCutR off c n) w) := by
  have hb := h
  unfold RTapeIs at hb
  have c1 : w.cell? ⟨m, 1, none⟩ = some (.bool off) := by rw [Lib.cell_of_heap hb]; rfl
  have c2 : w.cell? ⟨m, 2, none⟩ = some (.int .i64 c) := by rw [Lib.cell_of_heap hb]; rfl
  have f2 : w.frozen? ⟨m, 2, none⟩ = false := Lib.frozen_of_heap hb 2
  obtain ⟨p1, p2⟩ := rtape_put hb 2 (.int .i64 n)
  by_cases hn : n < 0
  · have hr : setCutR off c n = (2, off, c) := by unfold setCutR; rw [if_pos hn]
    rw [hr]
    clear hr
    go_enter Tryd.func26, Tryd.ntmps26
    go_wp2_with fail
    go_ret
    exact ⟨rfl, h, But.refl _ _⟩
  · cases off with
    | true =>
      have hr : setCutR true c n = (13, true, c) := by unfold setCutR; rw [if_neg hn, if_pos rfl]
      rw [hr]
      clear hr
      go_enter Tryd.func26, Tryd.ntmps26
      go_wp2_with fail
      go_ret
      exact ⟨rfl, h, But.refl _ _⟩
    | false =>
      have hr : setCutR false c n = (0, false, n) := by unfold setCutR; rw [if_neg hn, if_neg (by decide)]
      rw [hr]
      clear hr
      go_enter Tryd.func26, Tryd.ntmps26
      go_wp2_with fail
      go_ret
      exact ⟨rfl, p1, p2⟩

/-- What the reference's Append answers and leaves. -/
def RAppPost (m : Nat) (r : List UInt8 × Bool × Int × Bool) (w : World) (e : Ending) (w' : World) : Prop :=
  e = .returned (.int .i64 (if r.2.2.2 = true then 0 else 13)) ∧ (∃ b' : ByteArray, Hid (bl b' = r.1) ∧ RTapeIs w' m b' r.2.1 r.2.2.1) ∧ But m w w'

set_option maxHeartbeats 2000000 in
set_option maxRecDepth 100000 in
theorem refAppend_any (m : Nat) (b : ByteArray) (off : Bool) (c : Int) (s : ByteArray) (w : World) (h : RTapeIs w m b off c) (hs : s.size ≤ 20000) (hlen : b.size + (recL (bl s)).length ≤ 1048576) (hc : -1 ≤ c ∧ c ≤ 9223372036854775807) :
    Calls Tryd.prog 25 #[.pointer (some ⟨m, 0, none⟩), .string s] w (RAppPost m (WroteL (bl b) off c (recL (bl s))) w) := by
  have hm : m < w.heap.size := (Array.getElem?_eq_some_iff.1 h).1
  have C := Lib.hid (refRecord_any s w (by omega))
  go_enter Tryd.func25, Tryd.ntmps25
  go_wp2_with fail
  refine C.out.mono ?_
  clear C
  rintro e w1 ⟨⟨x, rfl, HX, hx⟩, hb1⟩
  have hb : w1.heap[m]? = some (.cells #[.string b, .bool off, .int .i64 c] 51 (0, 0)) := (hb1.block m hm).trans h
  have c0 : w1.cell? ⟨m, 0, none⟩ = some (.string b) := by rw [Lib.cell_of_heap hb]; rfl
  have c1 : w1.cell? ⟨m, 1, none⟩ = some (.bool off) := by rw [Lib.cell_of_heap hb]; rfl
  have c2 : w1.cell? ⟨m, 2, none⟩ = some (.int .i64 c) := by rw [Lib.cell_of_heap hb]; rfl
  have f0 : w1.frozen? ⟨m, 0, none⟩ = false := Lib.frozen_of_heap hb 0
  have f1 : w1.frozen? ⟨m, 1, none⟩ = false := Lib.frozen_of_heap hb 1
  have f2 : w1.frozen? ⟨m, 2, none⟩ = false := Lib.frozen_of_heap hb 2
  rw [← hx] at hlen
  have HXS := Lib.hid hx
  clear hx
  have hfull : ¬ ((1048576 : Int) < (b.size : Int) + (x.size : Int)) := by omega
  have hB1 : But m w w1 := But.of hb1
  cases off with
  | true =>
    have hW : Hid (WroteL (bl b) true c (recL (bl s)) = (bl b, true, c, false)) := by show _ = _; unfold WroteL; simp
    go_wp2_with fail
    go_ret
    unfold RAppPost
    rw [hW.out]
    exact ⟨rfl, ⟨b, rfl, hb⟩, hB1⟩
  | false =>
    by_cases h1 : 0 ≤ c
    · obtain ⟨k, rfl⟩ : ∃ k : Nat, c = k := ⟨c.toNat, by omega⟩
      by_cases h2 : k < x.size
      · have hks : k ≤ x.size := by omega
        have hW : Hid (WroteL (bl b) false (k : Int) (recL (bl s)) = (bl b ++ (recL (bl s)).take k, true, (k : Int), false)) := by
          show _ = _; unfold WroteL; rw [if_neg (by simp), if_pos ⟨h1, by rw [← HXS.out]; omega⟩]; simp
        have hxb : bl (x.extract 0 k) = (recL (bl s)).take k := by rw [bl_extract, HX.out]; simp
        have hxs : (x.extract 0 k).size = k := by simp; omega
        obtain ⟨q1, q2⟩ := rtape_put hb 0 (.string (b ++ x.extract 0 k))
        have g1 : (w1.setCell ⟨m, 0, none⟩ (.string (b ++ x.extract 0 k))).cell? ⟨m, 1, none⟩ = some (.bool false) := by rw [Lib.cell_of_heap q1]; rfl
        have g2 : (w1.setCell ⟨m, 0, none⟩ (.string (b ++ x.extract 0 k))).frozen? ⟨m, 1, none⟩ = false := Lib.frozen_of_heap q1 1
        obtain ⟨r1, r2⟩ := rtape_put q1 1 (.bool true)
        have hsum : b.size + (x.extract 0 k).size ≤ 1048576 := by omega
        go_wp2_with fail
        go_region
        all_goals go_wp2_with fail
        all_goals
          go_ret
          unfold RAppPost
          rw [hW.out]
          exact ⟨rfl, ⟨b ++ x.extract 0 k, by show _ = _; rw [bl_append, hxb], r1⟩, ((hB1.trans q2).trans r2).trans (But.of (below_drewN _ _ 1))⟩
      · have hW : Hid (WroteL (bl b) false (k : Int) (recL (bl s)) = (bl b ++ recL (bl s), false, (k : Int) - x.size, true)) := by
          show _ = _; unfold WroteL; rw [if_neg (by simp), if_neg (by rw [← HXS.out]; omega), if_pos h1, HXS.out]
        obtain ⟨q1, q2⟩ := rtape_put hb 2 (.int .i64 ((k : Int) - x.size))
        have g1 : (w1.setCell ⟨m, 2, none⟩ (.int .i64 ((k : Int) - x.size))).cell? ⟨m, 0, none⟩ = some (.string b) := by rw [Lib.cell_of_heap q1]; rfl
        have g2 : (w1.setCell ⟨m, 2, none⟩ (.int .i64 ((k : Int) - x.size))).frozen? ⟨m, 0, none⟩ = false := Lib.frozen_of_heap q1 0
        obtain ⟨r1, r2⟩ := rtape_put q1 0 (.string (b ++ x))
        go_wp2_with fail
        go_ret
        unfold RAppPost
        rw [hW.out]
        exact ⟨rfl, ⟨b ++ x, by show _ = _; rw [bl_append, HX.out], r1⟩, (hB1.trans q2).trans r2⟩
    · obtain rfl : c = -1 := by omega
      have hW : Hid (WroteL (bl b) false (-1) (recL (bl s)) = (bl b ++ recL (bl s), false, -1, true)) := by show _ = _; unfold WroteL; simp
      obtain ⟨q1, q2⟩ := rtape_put hb 0 (.string (b ++ x))
      go_wp2_with fail
      go_ret
      unfold RAppPost
      rw [hW.out]
      exact ⟨rfl, ⟨b ++ x, by show _ = _; rw [bl_append, HX.out], q1⟩, hB1.trans q2⟩

set_option maxRecDepth 100000 in
theorem refRecover_any (m : Nat) (b : ByteArray) (off : Bool) (c : Int) (w : World) (h : RTapeIs w m b off c) (hlen : b.size ≤ 1048576) :
    Calls Tryd.prog 28 #[.pointer (some ⟨m, 0, none⟩)] w fun e w' =>
      ∃ (v : Value) (zs : List ByteArray), e = .returned v ∧ Hid (Row encStr 1 w' v zs) ∧ Hid (zs.map bl = tapeL (bl b)) ∧ zs.length ≤ b.size ∧ (∃ b' : ByteArray, Hid (bl b' = recsL (tapeL (bl b))) ∧ RTapeIs w' m b' false (-1)) ∧ But m w w' := by
  have hm : m < w.heap.size := (Array.getElem?_eq_some_iff.1 h).1
  have hb0 := h
  unfold RTapeIs at hb0
  have c0 : w.cell? ⟨m, 0, none⟩ = some (.string b) := by rw [Lib.cell_of_heap hb0]; rfl
  have C := Lib.hid (readTape_any b w (by omega))
  have hbl : (bl b).length = b.size := bl_length b
  go_enter Tryd.func28, Tryd.ntmps28
  go_wp2_with fail
  refine C.out.mono ?_
  clear C
  rintro e w1 ⟨v, zs, n, rfl, HZ, HM, HN, hn, hzl, hb1⟩
  have hb : w1.heap[m]? = some (.cells #[.string b, .bool off, .int .i64 c] 51 (0, 0)) := (hb1.block m hm).trans h
  have d0 : w1.cell? ⟨m, 0, none⟩ = some (.string b) := by rw [Lib.cell_of_heap hb]; rfl
  have f0 : w1.frozen? ⟨m, 0, none⟩ = false := Lib.frozen_of_heap hb 0
  have sl : n ≤ b.size := by omega
  obtain ⟨q1, q2⟩ := rtape_put hb 0 (.string (b.extract 0 n))
  have g1 := Lib.cell_of_heap q1 1
  have g2 := Lib.frozen_of_heap q1 1
  obtain ⟨r1, r2⟩ := rtape_put q1 1 (.bool false)
  have g3 := Lib.cell_of_heap r1 2
  have g4 := Lib.frozen_of_heap r1 2
  obtain ⟨s1, s2⟩ := rtape_put r1 2 (.int .i64 (-1))
  clear c0
  go_wp2_with fail
  go_ret
  refine ⟨_, zs, rfl, ?_, HM, by omega, ⟨b.extract 0 n, ?_, s1⟩, (((But.of hb1).trans q2).trans r2).trans s2⟩
  · have hown := HZ.out
    have hr := Row.of_owns (enc := encStr) (size := 1) (fun _ => rfl) hown
    have hkind := Lib.ownsRow_kind hown
    rcases hr with h0 | ⟨g, off2, cap, e1, e2, e3, e4, e5⟩
    · exact .inl h0
    · refine .inr ⟨g, off2, cap, e1, e2, e3, Nat.lt_of_lt_of_le e4 ((q2.trans r2).trans s2).size, fun i hi j hj => ?_⟩
      have hgm : g ≠ m := by
        rintro rfl
        obtain ⟨c2, fz, h3⟩ := hkind g (by rw [e1]; rfl)
        rw [h3] at hb
        injection hb with hb
        injection hb with _ h4 _
        exact absurd h4 (by decide)
      rw [((q2.trans r2).trans s2).cell (p := ⟨g, off2 + i * 1 + j, none⟩) e4 hgm]
      exact e5 i hi j hj
  · show _ = _
    rw [bl_extract, HN.out, HM.out, List.drop_zero, Nat.sub_zero, tapeL_prefix]
end Go.Proofs.YtpafddeakanopaaDoor
