/- The tape's Append and Recover by their contracts. The reference's tape: Record, Append, SetCut, Recover by their contracts. taped: the closed fact of the tape's laws. More of the tape for TapeActs: Cut at any number, the bound, how disk and reference's tape leave each other. tape.Append, the reference's Append: the contracts, full tapes and long texts too. -/
import Derived.Test.YtcjjbpoaojjojaaGreatDoorJTapeReadEtc
import Derived.Test.YtcjjbpoaojjojaaGreatDoorJRowedEtc
import Derived.Lib.OwnKind
import Derived.Test.YtcjjbpoaojjojaaGreatDoorJRefLinkUp
import Derived.Test.YtcjjbpoaojjojaaGreatDoorJFetches
import Derived.Test.YtcjjbpoaojjojaaGreatDoorJTapePlainEtc
import Derived.Test.YtcjjbpoaojjojaaGreatDoorJHeldUp
import Derived.Test.YtcjjbpoaojjojaaGreatDoorJPlainly
namespace Go.Proofs.YtcjjbpoaojjojaaGreatDoor
open Go Go.RowKit

theorem bytesOf (l : List UInt8) : bl ⟨l.toArray⟩ = l := by simp [bl]

/-- What Append answers and leaves. -/
def AppPost (B b : Nat) (r : List UInt8 × Bool × Int × Bool) (v0 : Value) (w : World) (e : Ending) (w' : World) : Prop :=
  e = .returned (if r.2.2.2 = true then .nilIface else v0) ∧ DiskIs w' B b r.1 r.2.1 r.2.2.1 ∧ Onto B w w'

set_option maxHeartbeats 1000000 in
set_option maxRecDepth 100000 in
theorem append_any (B b : Nat) (bs : List UInt8) (off : Bool) (c : Int) (s : ByteArray) (v0 : Value) (w : World) (h : DiskIs w B b bs off c) (hs : s.size ≤ 20000) (hlen : bs.length + (recL (bl s)).length ≤ 1048576) (hc : -1 ≤ c ∧ c ≤ 9223372036854775807) (hBw : B ≤ w.heap.size)
    (hT : PowTab w) (hv : w.cell? ⟨2, 0, none⟩ = some v0) (hg : 2 < B) :
    Calls Tryz.prog 81 #[.pointer (some ⟨b, 0, none⟩), .string s] w (AppPost B b (WroteL bs off c (recL (bl s))) v0 w) := by
  have hD := Lib.hid h
  obtain ⟨hB, v, hb, hbuf⟩ := h
  have hbw : b < w.heap.size := (Array.getElem?_eq_some_iff.1 hb).1
  have hvl : ∃ ao cap, v = .slice ao bs.length cap := by
    rcases hbuf with ⟨rfl, h0⟩ | ⟨g, cap, cur, lo, hi, rfl, _⟩
    · have : bs = [] := by
        have := congrArg List.length h0
        rw [byteCells_length] at this
        exact List.eq_nil_of_length_eq_zero this
      subst this
      exact ⟨_, _, rfl⟩
    · exact ⟨_, _, by rw [byteCells_length]⟩
  obtain ⟨ao, cap, rfl⟩ := hvl
  have c0 : w.cell? ⟨b, 0, none⟩ = some (.slice ao bs.length cap) := by rw [Lib.cell_of_heap hb]; rfl
  have CR : Hid (∀ W, Below w.heap.size w W → (W.cell? ⟨b, 0, none⟩ = some (.slice ao bs.length cap)) ∧ Calls Tryz.prog 158 #[.string s] W fun e w' => (∃ x : ByteArray, e = .returned (.string x) ∧ Hid (bl x = recL (bl s)) ∧ x.size = (recL (bl s)).length) ∧ Below w.heap.size w w') := by
    intro W hW
    refine ⟨(hW.cell (p := ⟨b, 0, none⟩) hbw).trans c0, (record_any s W (by omega) (hT.ext hW)).mono ?_⟩
    rintro e w' ⟨⟨x, h1, h2, _⟩, h3⟩
    exact ⟨⟨x, h1, h2, by rw [← h2.out, bl_length]⟩, hW.trans (h3.mono hW.size)⟩
  clear hbuf hb
  have hdr : Below w.heap.size w w.drew := below_drewN _ _ 1
  have hR := recL_pos (bl s)
  have hbd : DiskIs w B b bs off c := hD.out
  go_enter Tryz.func81, Tryz.ntmps81
  go_wp2_with fail
  have C1 := Lib.hid (CR.out w.drew hdr).2
  go_region_with (first
    | (go_at_call 158; refine C1.out.mono ?_; clear C1; rintro e w2 ⟨⟨x, rfl, HX, hx⟩, hb2⟩; have c2 := (CR.out w2 hb2).1))
  all_goals
    have C2 := Lib.hid (CR.out w2 hb2).2
    have hI : ¬ (IntKind.i64.wrap ((1048576 : Int) - (bs.length : Int)) < ((recL (bl s)).length : Int)) := by rw [IntWalk.i64_in _ (by omega)]; omega
    clear CR
    go_wp2_with fail
    refine C2.out.mono ?_
    clear C2
    rintro e w3 ⟨⟨y, rfl, HY, hy⟩, hb3⟩
    have C3 := Lib.hid (diskWrite_any B b bs off c y v0 w3 (hbd.below hb3) (by omega) hc (Nat.le_trans hBw hb3.size) ((hb3.cell (p := ⟨2, 0, none⟩) (show 2 < w.heap.size by omega)).trans hv) hg)
    clear hD hbd hv c2 c0
    go_wp2_with fail
    refine C3.out.mono ?_
    clear C3
    rintro e w4 ⟨bs', off', c', ok, HW, rfl, HD, HO⟩
    have HW2 : Hid (WroteL bs off c (recL (bl s)) = (bs', off', c', ok)) := by show _ = _; rw [← HY.out]; exact HW.out
    have HO2 := (Onto.of hb3 hBw).trans HO
    clear HW HY HX
    cases ok
    all_goals
      dsimp only [if_true, if_false, Bool.false_eq_true]
      go_wp2_with fail
      go_ret
      have HW3 := HW2.out
      unfold AppPost
      rw [HW3]
      exact ⟨rfl, HD, HO2⟩

set_option maxRecDepth 100000 in
theorem bound_any (b : Nat) (s : ByteArray) (v0 : Value) (w : World) (hs : 20000 < s.size) (hv : w.cell? ⟨0, 0, none⟩ = some v0) :
    Calls Tryz.prog 81 #[.pointer (some ⟨b, 0, none⟩), .string s] w fun e w' => e = .returned v0 ∧ w = w' := by
  go_enter Tryz.func81, Tryz.ntmps81
  go_wp2_with fail
  go_ret
  exact ⟨rfl, rfl⟩

theorem owns_base {base B : Nat} {e : TypeId} {size : Nat} {w : World} {v : Value} {n : Nat} {xs : List Value} (h : w.ownsRow base e size v n xs) (hB : B ≤ base) : w.ownsRow B e size v n xs := by
  refine ⟨h.1, ?_⟩
  rcases h.2 with h0 | ⟨g, cap, cur, hv, hb, hr⟩
  · exact .inl h0
  · exact .inr ⟨g, cap, cur, hv, Nat.le_trans hB hb, hr⟩
theorem Buf.cut {w : World} {B : Nat} {v : Value} {xs : List Value} (h : Buf w B v xs) (n : Nat) (hn : n ≤ xs.length) :
    ∃ ao cap, v = .slice ao xs.length cap ∧ xs.length ≤ cap ∧ (ao = none → cap = 0) ∧ Buf w B (.slice ao n n) (xs.take n) := by
  rcases h with ⟨rfl, rfl⟩ | ⟨g, cap, cur, lo, hi, rfl, h1, h2, h3, h4, h5, h6, h7⟩
  · obtain rfl : n = 0 := by simpa using hn
    exact ⟨none, 0, rfl, Nat.le_refl _, fun _ => rfl, .inl ⟨rfl, rfl⟩⟩
  · have hl : (xs.take n).length = n := by rw [List.length_take]; omega
    exact ⟨some ⟨g, 0, none⟩, cap, rfl, h4, (fun h => by cases h), .inr ⟨g, n, cur, lo, hi, by rw [hl], h1, h2, h3, by rw [hl]; exact Nat.le_refl _, by omega, by omega, by rw [hl, ← h7, List.take_take]; congr 1; omega⟩⟩

set_option maxHeartbeats 1000000 in
set_option maxRecDepth 100000 in
theorem recover_any (B b : Nat) (bs : List UInt8) (off : Bool) (c : Int) (w : World) (h : DiskIs w B b bs off c) (hlen : bs.length ≤ 1048576) (hBw : B ≤ w.heap.size) (hEB : ∀ W, Below B w W → TEnv W) :
    Calls Tryz.prog 32 #[.pointer (some ⟨b, 0, none⟩)] w fun e w' =>
      ∃ (v : Value) (zs : List ByteArray), e = .returned (.tuple #[v, .nilIface]) ∧ Hid (w'.ownsRow B 9 1 v zs.length (zs.flatMap encStr)) ∧ Hid (zs.map bl = tapeL bs) ∧ zs.length ≤ bs.length ∧ DiskIs w' B b (recsL (tapeL bs)) false (-1) ∧ Onto B w w' := by
  have C := Lib.hid (diskOn_any B b bs off c w h)
  clear h
  go_enter Tryz.func32, Tryz.ntmps32
  go_wp2_with fail
  refine C.out.mono ?_
  clear C
  rintro e w1 ⟨rfl, ⟨hB, v, hb, hbuf⟩, HO1⟩
  have hT := hEB w1 HO1.below
  have hB1 : B ≤ w1.heap.size := Nat.le_trans hBw HO1.below.size
  have hcl : (cellsL bs).length = bs.length := byteCells_length bs
  have c0 : w1.cell? ⟨b, 0, none⟩ = some v := by rw [Lib.cell_of_heap hb]; rfl
  have hcv := convert_buf hbuf
  have hbw : b < w1.heap.size := (Array.getElem?_eq_some_iff.1 hb).1
  have CR := Lib.hid (read_any ⟨bs.toArray⟩ w1 (by show bs.toArray.size ≤ _; simp; omega) hT)
  rw [bytesOf] at CR
  have HC := Lib.hid (fun n hn => hbuf.cut n hn)
  obtain ⟨ao, cap, rfl⟩ : ∃ ao cap, v = .slice ao bs.length cap := by
    obtain ⟨ao, cap, h1, _⟩ := hbuf.cut 0 (Nat.zero_le _)
    exact ⟨ao, cap, by rw [h1, hcl]⟩
  go_wp2_with fail
  refine CR.out.mono ?_
  clear CR
  rintro e w2 ⟨v2, zs, n, rfl, HZ, HM, HN, hn, hzl, hb2⟩
  obtain ⟨ao3, cap3, e3, hcap, hao, hbuf2⟩ := HC.out n (by omega)
  rw [hcl] at e3 hcap
  injection e3 with e3 e4 e5
  subst e3; subst e5
  clear HC
  have d0 : w2.cell? ⟨b, 0, none⟩ = some (.slice ao bs.length cap) := (hb2.cell (p := ⟨b, 0, none⟩) hbw).trans c0
  have hb3 : w2.heap[b]? = _ := (hb2.block b hbw).trans hb
  have f0 : w2.frozen? ⟨b, 0, none⟩ = false := Lib.frozen_of_heap hb3 0
  clear c0 hcv
  obtain ⟨q1, q2, q3⟩ := disk_put hB hb3 0 (.slice ao n n)
  have hbuf3 := q3 _ _ (hbuf2.below hb2)
  go_wp2_with fail
  go_ret2
  have hW2 := q2.below.size
  refine ⟨_, zs, rfl, ?_, HM, hzl, ⟨hB, _, q1, ?_⟩, (HO1.trans (Onto.of hb2 hB1)).trans q2⟩
  · exact owns_base (q2.owns HZ.out (by decide) (by decide)) hB1
  · have : (cellsL bs).take n = cellsL (recsL (tapeL bs)) := by
      show (Lib.byteCells bs).take n = Lib.byteCells (recsL (tapeL bs))
      unfold Lib.byteCells
      rw [← List.map_take, HN.out, HM.out, tapeL_prefix]
    rw [← this]
    exact hbuf3
end Go.Proofs.YtcjjbpoaojjojaaGreatDoor

namespace Go.Proofs.YtcjjbpoaojjojaaGreatDoor
open Go Go.RowKit

set_option maxRecDepth 100000 in
theorem refRecord_any (s : ByteArray) (w : World) (hs : s.size ≤ 100000000) :
    Calls Tryz.prog 7 #[.string s] w fun e w' => (∃ x : ByteArray, e = .returned (.string x) ∧ Hid (bl x = recL (bl s)) ∧ x.size = (recL (bl s)).length) ∧ Below w.heap.size w w' := by
  have hsl : (bl s).length = s.size := bl_length s
  go_enter Tryz.func7, Tryz.ntmps7
  go_wp2_with fail
  refine (decimal_any s.size (by omega) w).mono ?_
  rintro e w1 ⟨t, rfl, HT, hts, hb⟩
  go_wp2_with fail
  go_ret
  have hx : bl (t ++ ⟨#[58]⟩ ++ s ++ ⟨#[10, 46]⟩) = recL (bl s) := by
    unfold recL
    rw [hsl, ← HT.out]
    simp [bl]
  exact ⟨⟨_, rfl, hx, by rw [← hx, bl_length]⟩, hb⟩

/-- The reference's tape, a block of its own. -/
def RTapeIs (w : World) (m : Nat) (b : ByteArray) (off : Bool) (c : Int) : Prop :=
  w.heap[m]? = some (.cells #[.string b, .bool off, .int .i64 c] 47 (0, 0))
/-- What a call that works on it leaves: all but it. -/
structure But (m : Nat) (w w' : World) : Prop where
  os : w'.os = w.os
  tape : w'.tape = w.tape
  output : w'.output = w.output
  size : w.heap.size ≤ w'.heap.size
  block : ∀ k, k < w.heap.size → k ≠ m → w'.heap[k]? = w.heap[k]?
theorem But.refl (m : Nat) (w : World) : But m w w := ⟨rfl, rfl, rfl, Nat.le_refl _, fun _ _ _ => rfl⟩
theorem But.trans {m : Nat} {a b c : World} (h : But m a b) (k : But m b c) : But m a c :=
  ⟨k.os.trans h.os, k.tape.trans h.tape, k.output.trans h.output, Nat.le_trans h.size k.size, fun i hi hm => (k.block i (Nat.lt_of_lt_of_le hi h.size) hm).trans (h.block i hi hm)⟩
theorem But.of {m : Nat} {w w' : World} (h : Below w.heap.size w w') : But m w w' := ⟨h.os, h.tape, h.output, h.size, fun k hk _ => h.block k hk⟩
theorem But.below {m B : Nat} {w w' : World} (h : But m w w') (hB : B ≤ m) (hw : B ≤ w.heap.size) : Below B w w' := ⟨h.os, h.tape, h.output, h.size, fun k hk => h.block k (by omega) (by omega)⟩
theorem But.cell {m : Nat} {w w' : World} (h : But m w w') {p : Addr} (hp : p.block < w.heap.size) (hm : p.block ≠ m) : w'.cell? p = w.cell? p := by
  unfold World.cell?
  rw [h.block p.block hp hm]
theorem rtape_put {w : World} {m : Nat} {cs : Array Value} (hb : w.heap[m]? = some (.cells cs 47 (0, 0))) (j : Nat) (x : Value) :
    (w.setCell ⟨m, j, none⟩ x).heap[m]? = some (.cells (cs.setIfInBounds j x) 47 (0, 0)) ∧ But m w (w.setCell ⟨m, j, none⟩ x) :=
  ⟨by simp [World.setCell, Array.getElem?_modify, hb], rfl, rfl, rfl, by simp [World.setCell], fun k _ hk => Below.heap_setCell _ _ _ _ (fun e => hk (by simp [e]))⟩

set_option maxRecDepth 100000 in
theorem refRecover_any (m : Nat) (b : ByteArray) (off : Bool) (c : Int) (w : World) (h : RTapeIs w m b off c) (hlen : b.size ≤ 1048576) :
    Calls Tryz.prog 37 #[.pointer (some ⟨m, 0, none⟩)] w fun e w' =>
      ∃ (v : Value) (zs : List ByteArray), e = .returned v ∧ Hid (Row encStr 1 w' v zs) ∧ Hid (zs.map bl = tapeL (bl b)) ∧ zs.length ≤ b.size ∧ (∃ b' : ByteArray, Hid (bl b' = recsL (tapeL (bl b))) ∧ RTapeIs w' m b' false (-1)) ∧ But m w w' := by
  have hm : m < w.heap.size := (Array.getElem?_eq_some_iff.1 h).1
  have hb0 := h
  unfold RTapeIs at hb0
  have c0 : w.cell? ⟨m, 0, none⟩ = some (.string b) := by rw [Lib.cell_of_heap hb0]; rfl
  have C := Lib.hid (readTape_any b w (by omega))
  have hbl : (bl b).length = b.size := bl_length b
  go_enter Tryz.func37, Tryz.ntmps37
  go_wp2_with fail
  refine C.out.mono ?_
  clear C
  rintro e w1 ⟨v, zs, n, rfl, HZ, HM, HN, hn, hzl, hb1⟩
  have hb : w1.heap[m]? = some (.cells #[.string b, .bool off, .int .i64 c] 47 (0, 0)) := (hb1.block m hm).trans h
  have d0 : w1.cell? ⟨m, 0, none⟩ = some (.string b) := by rw [Lib.cell_of_heap hb]; rfl
  have f0 : w1.frozen? ⟨m, 0, none⟩ = false := Lib.frozen_of_heap hb 0
  have sl : n ≤ b.size := by omega
  obtain ⟨q1, q2⟩ := rtape_put hb 0 (.string (b.extract 0 n))
  have g1 := Lib.cell_of_heap q1 1
  have g2 := Lib.frozen_of_heap q1 1
  obtain ⟨r1, r2⟩ := rtape_put q1 1 (.bool false)
  have g3 := Lib.cell_of_heap r1 2
  have g4 := Lib.frozen_of_heap r1 2
  obtain ⟨s1, s2⟩ := rtape_put r1 2 (.int .i64 (-1))
  clear c0
  go_wp2_with fail
  go_ret
  refine ⟨_, zs, rfl, ?_, HM, by omega, ⟨b.extract 0 n, ?_, s1⟩, (((But.of hb1).trans q2).trans r2).trans s2⟩
  · have hown := HZ.out
    have hr := Row.of_owns (enc := encStr) (size := 1) (fun _ => rfl) hown
    have hkind := Lib.ownsRow_kind hown
    rcases hr with h0 | ⟨g, off2, cap, e1, e2, e3, e4, e5⟩
    · exact .inl h0
    · refine .inr ⟨g, off2, cap, e1, e2, e3, Nat.lt_of_lt_of_le e4 ((q2.trans r2).trans s2).size, fun i hi j hj => ?_⟩
      have hgm : g ≠ m := by
        rintro rfl
        obtain ⟨c2, fz, h3⟩ := hkind g (by rw [e1]; rfl)
        rw [h3] at hb
        injection hb with hb
        injection hb with _ h4 _
        exact absurd h4 (by decide)
      rw [((q2.trans r2).trans s2).cell (p := ⟨g, off2 + i * 1 + j, none⟩) e4 hgm]
      exact e5 i hi j hj
  · show _ = _
    rw [bl_extract, HN.out, HM.out, List.drop_zero, Nat.sub_zero, tapeL_prefix]
end Go.Proofs.YtcjjbpoaojjojaaGreatDoor

namespace Go.Proofs.YtcjjbpoaojjojaaGreatDoor
open Go Go.RowKit

/-- What the laws of the tape read of the program's variables. -/
def TapeEnv (w : World) : Prop := TEnv w ∧ ∃ te pe, w.cell? ⟨2, 0, none⟩ = some (.iface te pe)
theorem TapeEnv.ext {w w' : World} (h : TapeEnv w) (hb : Below w.heap.size w w') : TapeEnv w' := by
  obtain ⟨h1, te, pe, h2⟩ := h
  exact ⟨h1.ext hb, te, pe, (hb.cell (show (⟨2, 0, none⟩ : Addr).block < w.heap.size from Lib.lt_of_cell h2)).trans h2⟩

end Go.Proofs.YtcjjbpoaojjojaaGreatDoor

namespace Go.Proofs.YtcjjbpoaojjojaaGreatDoor
open Go Go.RowKit

theorem DiskIs.but {w w' : World} {B b m : Nat} {bs : List UInt8} {off : Bool} {c : Int} {rb : ByteArray} {roff : Bool} {rc : Int} (h : DiskIs w B b bs off c) (hm : RTapeIs w m rb roff rc) (hb : But m w w') : DiskIs w' B b bs off c := by
  unfold RTapeIs at hm
  have ne : ∀ (q : Nat) (cs : Array Value) (T : TypeId) (fz : Nat × Nat), w.heap[q]? = some (.cells cs T fz) → T ≠ 47 → w'.heap[q]? = some (.cells cs T fz) := by
    intro q cs T fz hq hT
    rw [hb.block q (Array.getElem?_eq_some_iff.1 hq).1 (fun e => hT ?_)]
    · exact hq
    · subst e
      rw [hm] at hq
      injection hq with hq
      injection hq with _ h4 _
      exact h4.symm
  obtain ⟨h1, v, h2, h3⟩ := h
  refine ⟨h1, v, ne _ _ _ _ h2 (by decide), ?_⟩
  rcases h3 with h3 | ⟨q, qc, cur, lo, hi, e1, e2, e3, e4⟩
  · exact .inl h3
  · exact .inr ⟨q, qc, cur, lo, hi, e1, e2, ne _ _ _ _ e3 (by decide), e4⟩
theorem RTapeIs.onto {w w' : World} {B m : Nat} {rb : ByteArray} {roff : Bool} {rc : Int} (h : RTapeIs w m rb roff rc) (ho : Onto B w w') : RTapeIs w' m rb roff rc := by
  refine ho.keep m _ h ?_
  rintro (⟨c, fz, he⟩ | ⟨c, fz, he⟩)
  · injection he with _ h3 _; exact absurd h3 (by decide)
  · injection he with _ h3 _; exact absurd h3 (by decide)
theorem RTapeIs.below {w w' : World} {m : Nat} {rb : ByteArray} {roff : Bool} {rc : Int} (h : RTapeIs w m rb roff rc) (hb : Below w.heap.size w w') : RTapeIs w' m rb roff rc := by
  unfold RTapeIs at h ⊢
  rw [hb.block m (Array.getElem?_eq_some_iff.1 h).1]; exact h

end Go.Proofs.YtcjjbpoaojjojaaGreatDoor

namespace Go.Proofs.YtcjjbpoaojjojaaGreatDoor
open Go Go.RowKit

theorem Onto.keeps {B : Nat} {w w' : World} (h : Onto B w w') : Keeps TapeRow B w w' := ⟨h.below, h.keep⟩
theorem But.keeps {K : Obj → Prop} {m B : Nat} {w w' : World} {o : Obj} (h : But m w w') (hB : B ≤ m) (hw : B ≤ w.heap.size) (ho : w.heap[m]? = some o) (hK : K o) : Keeps K B w w' := by
  refine ⟨h.below hB hw, fun k o' hk hn => ?_⟩
  by_cases he : k = m
  · subst he
    rw [ho] at hk
    cases hk
    exact absurd hK hn
  · rw [h.block k (Array.getElem?_eq_some_iff.1 hk).1 he]
    exact hk
/-- A tape, by its plain word. -/
def TapeIs (w : World) (B b : Nat) (t : TapeS) : Prop := DiskIs w B b t.bytes t.off t.cut ∧ t.bytes.length ≤ 1048576 ∧ -1 ≤ t.cut ∧ t.cut ≤ 9223372036854775807
theorem TapeIs.below {w w' : World} {B b : Nat} {t : TapeS} (h : TapeIs w B b t) (hb : Below w.heap.size w w') : TapeIs w' B b t := ⟨h.1.below hb, h.2⟩
/-- What Append hands back, and leaves. -/
def TAppPost (E : Nat → Addr) (B b : Nat) (r : Nat × TapeS) (w : World) (e : Ending) (w' : World) : Prop :=
  e = .returned (errV E r.1) ∧ TapeIs w' B b r.2 ∧ Keeps TapeRow B w w'
theorem WroteL_len (bs : List UInt8) (off : Bool) (c : Int) (r : List UInt8) : (WroteL bs off c r).1.length ≤ bs.length + r.length := by
  unfold WroteL
  split
  · exact Nat.le_add_right _ _
  · split
    · show (bs ++ r.take c.toNat).length ≤ _
      rw [List.length_append, List.length_take]; omega
    · show (bs ++ r).length ≤ _
      rw [List.length_append]; omega
theorem WroteL_cut (bs : List UInt8) (off : Bool) (c : Int) (r : List UInt8) (h : -1 ≤ c ∧ c ≤ 9223372036854775807) : -1 ≤ (WroteL bs off c r).2.2.1 ∧ (WroteL bs off c r).2.2.1 ≤ 9223372036854775807 := by
  unfold WroteL
  split
  · exact h
  · split
    · exact h
    · show -1 ≤ (if 0 ≤ c then c - r.length else c) ∧ (if 0 ≤ c then c - r.length else c) ≤ 9223372036854775807
      split <;> omega

set_option maxHeartbeats 1000000 in
set_option maxRecDepth 100000 in
theorem tapeFull_any (B b : Nat) (bs : List UInt8) (off : Bool) (c : Int) (s : ByteArray) (v0 : Value) (w : World) (h : DiskIs w B b bs off c) (hs : s.size ≤ 20000) (hb0 : bs.length ≤ 1048576) (hlen : 1048576 < bs.length + (recL (bl s)).length)
    (hT : PowTab w) (hv : w.cell? ⟨8, 0, none⟩ = some v0) :
    Calls Tryz.prog 81 #[.pointer (some ⟨b, 0, none⟩), .string s] w fun e w' => e = .returned v0 ∧ Below w.heap.size w w' := by
  obtain ⟨hB, v, hb, hbuf⟩ := h
  have hbw : b < w.heap.size := (Array.getElem?_eq_some_iff.1 hb).1
  have hvl : ∃ ao cap, v = .slice ao bs.length cap := by
    rcases hbuf with ⟨rfl, h0⟩ | ⟨g, cap, cur, lo, hi, rfl, _⟩
    · have : bs = [] := by
        have := congrArg List.length h0
        rw [byteCells_length] at this
        exact List.eq_nil_of_length_eq_zero this
      subst this
      exact ⟨_, _, rfl⟩
    · exact ⟨_, _, by rw [byteCells_length]⟩
  obtain ⟨ao, cap, rfl⟩ := hvl
  have c0 : w.cell? ⟨b, 0, none⟩ = some (.slice ao bs.length cap) := by rw [Lib.cell_of_heap hb]; rfl
  have CR : Hid (∀ W, Below w.heap.size w W → (W.cell? ⟨b, 0, none⟩ = some (.slice ao bs.length cap)) ∧ Calls Tryz.prog 158 #[.string s] W fun e w' => (∃ x : ByteArray, e = .returned (.string x) ∧ Hid (bl x = recL (bl s)) ∧ x.size = (recL (bl s)).length) ∧ Below w.heap.size w w') := by
    intro W hW
    refine ⟨(hW.cell (p := ⟨b, 0, none⟩) hbw).trans c0, (record_any s W (by omega) (hT.ext hW)).mono ?_⟩
    rintro e w' ⟨⟨x, h1, h2, _⟩, h3⟩
    exact ⟨⟨x, h1, h2, by rw [← h2.out, bl_length]⟩, hW.trans (h3.mono hW.size)⟩
  have KV : Hid (∀ W, Below w.heap.size w W → W.cell? ⟨8, 0, none⟩ = some v0) := fun W hW => (hW.cell (p := ⟨8, 0, none⟩) (Lib.lt_of_cell hv)).trans hv
  have hrl : (recL (bl s)).length ≤ 30000 := by
    have h1 := recL_len (bl s)
    have h2 := decDigits_len_le 9 (bl s).length (by rw [bl_length]; omega)
    rw [bl_length] at h1 h2
    omega
  clear hbuf hb hv
  have hdr : Below w.heap.size w w.drew := below_drewN _ _ 1
  go_enter Tryz.func81, Tryz.ntmps81
  go_wp2_with fail
  have C1 := Lib.hid (CR.out w.drew hdr).2
  go_region_with (first
    | (go_at_call 158; refine C1.out.mono ?_; clear C1; rintro e w2 ⟨⟨x, rfl, HX, hx⟩, hb2⟩; have c2 := (CR.out w2 hb2).1))
  all_goals
    have v2 := KV.out w2 hb2
    have hI : IntKind.i64.wrap ((1048576 : Int) - (bs.length : Int)) < ((recL (bl s)).length : Int) := by rw [IntWalk.i64_in _ (by omega)]; omega
    clear CR KV
    go_wp2_with fail
    go_ret
    exact ⟨rfl, hb2⟩

/-- Append, whatever comes. -/
theorem tapeApp_any {E : Nat → Addr} (B b : Nat) (t : TapeS) (s : ByteArray) (w : World) (h : TapeIs w B b t) (hBw : B ≤ w.heap.size) (hT : PowTab w) (hE : Env E w) (hG : ∀ k, k < 13 → gE k < B) :
    Calls Tryz.prog 81 #[.pointer (some ⟨b, 0, none⟩), .string s] w (TAppPost E B b (appT t (bl s)) w) := by
  obtain ⟨hD, hl, hc⟩ := id h
  have hsl : (bl s).length = s.size := bl_length s
  unfold appT
  by_cases h1 : 20000 < (bl s).length
  · rw [if_pos h1]
    refine (bound_any b s (sentV E 1) w (by omega) (hE.err 1 (by decide))).mono ?_
    rintro e w' ⟨rfl, rfl⟩
    exact ⟨rfl, h, Keeps.refl _ _ _⟩
  · rw [if_neg h1]
    by_cases h2 : 1048576 < t.bytes.length + (recL (bl s)).length
    · rw [if_pos h2]
      refine (tapeFull_any B b t.bytes t.off t.cut s (sentV E 7) w hD (by omega) hl h2 hT (hE.err 7 (by decide))).mono ?_
      rintro e w' ⟨rfl, hb⟩
      exact ⟨rfl, h.below hb, Keeps.of hb hBw⟩
    · rw [if_neg h2]
      refine (append_any B b t.bytes t.off t.cut s (sentV E 12) w hD (by omega) (by omega) hc hBw hT (hE.err 12 (by decide)) (hG 12 (by decide))).mono ?_
      rintro e w' ⟨rfl, hD2, hO⟩
      have hwl := WroteL_len t.bytes t.off t.cut (recL (bl s))
      refine ⟨?_, ⟨hD2, by show (WroteL _ _ _ _).1.length ≤ _; omega, WroteL_cut _ _ _ _ hc⟩, hO.keeps⟩
      by_cases h3 : (WroteL t.bytes t.off t.cut (recL (bl s))).2.2.2 = true
      · rw [if_pos h3, if_pos h3]; rfl
      · rw [if_neg h3, if_neg h3]; rfl

/-- The reference's tape, by its plain word. -/
def RTapeS (w : World) (m : Nat) (t : TapeS) : Prop := ∃ b : ByteArray, bl b = t.bytes ∧ RTapeIs w m b t.off t.cut ∧ t.bytes.length ≤ 1048576 ∧ -1 ≤ t.cut ∧ t.cut ≤ 9223372036854775807
theorem RTapeS.below {w w' : World} {m : Nat} {t : TapeS} (h : RTapeS w m t) (hb : Below w.heap.size w w') : RTapeS w' m t := by
  obtain ⟨b, h1, h2, h3⟩ := h
  exact ⟨b, h1, h2.below hb, h3⟩
def RTapeRow (o : Obj) : Prop := ∃ cs fz, o = .cells cs 47 fz
end Go.Proofs.YtcjjbpoaojjojaaGreatDoor
