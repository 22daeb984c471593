/- The tape's Append and Recover by their contracts. -/
import Derived.Test.YtpafddeakanopaaDoorTapeAll
namespace Go.Proofs.YtpafddeakanopaaDoor
open Go Go.RowKit

theorem bytesOf (l : List UInt8) : bl ⟨l.toArray⟩ = l := by simp [bl]

/-- What Append answers and leaves. -/
def AppPost (B b : Nat) (r : List UInt8 × Bool × Int × Bool) (v0 : Value) (w : World) (e : Ending) (w' : World) : Prop :=
  e = .returned (if r.2.2.2 = true then .nilIface else v0) ∧ DiskIs w' B b r.1 r.2.1 r.2.2.1 ∧ Onto B w w'

set_option maxHeartbeats 1000000 in
set_option maxRecDepth 100000 in
theorem append_any (B b : Nat) (bs : List UInt8) (off : Bool) (c : Int) (s : ByteArray) (v0 : Value) (w : World) (h : DiskIs w B b bs off c) (hs : s.size ≤ 20000) (hlen : bs.length + (recL (bl s)).length ≤ 1048576) (hc : -1 ≤ c ∧ c ≤ 9223372036854775807) (hBw : B ≤ w.heap.size)
    (hT : PowTab w) (hv : w.cell? ⟨1, 0, none⟩ = some v0) (hg : 1 < B) :
    Calls Tryd.prog 19 #[.pointer (some ⟨b, 0, none⟩), .string s] w (AppPost B b (WroteL bs off c (recL (bl s))) v0 w) := by
  have hD := Lib.hid h
  obtain ⟨hB, v, hb, hbuf⟩ := h
  have hbw : b < w.heap.size := (Array.getElem?_eq_some_iff.1 hb).1
  have hvl : ∃ ao cap, v = .slice ao bs.length cap := by
    rcases hbuf with ⟨rfl, h0⟩ | ⟨g, cap, cur, lo, hi, rfl, _⟩
    · have : bs = [] := by
        have := congrArg List.length h0
        rw [byteCells_length] at this
        exact List.eq_nil_of_length_eq_zero this
      subst this
      exact ⟨_, _, rfl⟩
    · exact ⟨_, _, by rw [byteCells_length]⟩
  obtain ⟨ao, cap, rfl⟩ := hvl
  have c0 : w.cell? ⟨b, 0, none⟩ = some (.slice ao bs.length cap) := by rw [Lib.cell_of_heap hb]; rfl
  have CR : Hid (∀ W, Below w.heap.size w W → (W.cell? ⟨b, 0, none⟩ = some (.slice ao bs.length cap)) ∧ Calls Tryd.prog 45 #[.string s] W fun e w' => (∃ x : ByteArray, e = .returned (.string x) ∧ Hid (bl x = recL (bl s)) ∧ x.size = (recL (bl s)).length) ∧ Below w.heap.size w w') := by
    intro W hW
    refine ⟨(hW.cell (p := ⟨b, 0, none⟩) hbw).trans c0, (record_any s W (by omega) (hT.ext hW)).mono ?_⟩
    rintro e w' ⟨⟨x, h1, h2, _⟩, h3⟩
    exact ⟨⟨x, h1, h2, by rw [← h2.out, bl_length]⟩, hW.trans (h3.mono hW.size)⟩
  clear hbuf hb
  have hdr : Below w.heap.size w w.drew := below_drewN _ _ 1
  have hR := recL_pos (bl s)
  have hbd : DiskIs w B b bs off c := hD.out
  go_enter Tryd.func19, Tryd.ntmps19
  go_wp2_with fail
  have C1 := Lib.hid (CR.out w.drew hdr).2
  go_region_with (first
    | (go_at_call 45; refine C1.out.mono ?_; clear C1; rintro e w2 ⟨⟨x, rfl, HX, hx⟩, hb2⟩; have c2 := (CR.out w2 hb2).1))
  all_goals
    have C2 := Lib.hid (CR.out w2 hb2).2
    have hI : ¬ (IntKind.i64.wrap ((1048576 : Int) - (bs.length : Int)) < ((recL (bl s)).length : Int)) := by rw [IntWalk.i64_in _ (by omega)]; omega
    clear CR
    go_wp2_with fail
    refine C2.out.mono ?_
    clear C2
    rintro e w3 ⟨⟨y, rfl, HY, hy⟩, hb3⟩
    have C3 := Lib.hid (diskWrite_any B b bs off c y v0 w3 (hbd.below hb3) (by omega) hc (Nat.le_trans hBw hb3.size) ((hb3.cell (p := ⟨1, 0, none⟩) (show 1 < w.heap.size by omega)).trans hv) hg)
    clear hD hbd hv c2 c0
    go_wp2_with fail
    refine C3.out.mono ?_
    clear C3
    rintro e w4 ⟨bs', off', c', ok, HW, rfl, HD, HO⟩
    have HW2 : Hid (WroteL bs off c (recL (bl s)) = (bs', off', c', ok)) := by show _ = _; rw [← HY.out]; exact HW.out
    have HO2 := (Onto.of hb3 hBw).trans HO
    clear HW HY HX
    cases ok
    all_goals
      dsimp only [if_true, if_false, Bool.false_eq_true]
      go_wp2_with fail
      go_ret
      have HW3 := HW2.out
      unfold AppPost
      rw [HW3]
      exact ⟨rfl, HD, HO2⟩

set_option maxRecDepth 100000 in
theorem bound_any (b : Nat) (s : ByteArray) (v0 : Value) (w : World) (hs : 20000 < s.size) (hv : w.cell? ⟨0, 0, none⟩ = some v0) :
    Calls Tryd.prog 19 #[.pointer (some ⟨b, 0, none⟩), .string s] w fun e w' => e = .returned v0 ∧ w = w' := by
  go_enter Tryd.func19, Tryd.ntmps19
  go_wp2_with fail
  go_ret
  exact ⟨rfl, rfl⟩

theorem owns_base {base B : Nat} {e : TypeId} {size : Nat} {w : World} {v : Value} {n : Nat} {xs : List Value} (h : w.ownsRow base e size v n xs) (hB : B ≤ base) : w.ownsRow B e size v n xs := by
  refine ⟨h.1, ?_⟩
  rcases h.2 with h0 | ⟨g, cap, cur, hv, hb, hr⟩
  · exact .inl h0
  · exact .inr ⟨g, cap, cur, hv, Nat.le_trans hB hb, hr⟩
theorem Buf.cut {w : World} {B : Nat} {v : Value} {xs : List Value} (h : Buf w B v xs) (n : Nat) (hn : n ≤ xs.length) :
    ∃ ao cap, v = .slice ao xs.length cap ∧ xs.length ≤ cap ∧ (ao = none → cap = 0) ∧ Buf w B (.slice ao n n) (xs.take n) := by
  rcases h with ⟨rfl, rfl⟩ | ⟨g, cap, cur, lo, hi, rfl, h1, h2, h3, h4, h5, h6, h7⟩
  · obtain rfl : n = 0 := by simpa using hn
    exact ⟨none, 0, rfl, Nat.le_refl _, fun _ => rfl, .inl ⟨rfl, rfl⟩⟩
  · have hl : (xs.take n).length = n := by rw [List.length_take]; omega
    exact ⟨some ⟨g, 0, none⟩, cap, rfl, h4, (fun h => by cases h), .inr ⟨g, n, cur, lo, hi, by rw [hl], h1, h2, h3, by rw [hl]; exact Nat.le_refl _, by omega, by omega, by rw [hl, ← h7, List.take_take]; congr 1; omega⟩⟩

set_option maxHeartbeats 1000000 in
set_option maxRecDepth 100000 in
theorem recover_any (B b : Nat) (bs : List UInt8) (off : Bool) (c : Int) (w : World) (h : DiskIs w B b bs off c) (hlen : bs.length ≤ 1048576) (hBw : B ≤ w.heap.size) (hEB : ∀ W, Below B w W → TEnv W) :
    Calls Tryd.prog 20 #[.pointer (some ⟨b, 0, none⟩)] w fun e w' =>
      ∃ (v : Value) (zs : List ByteArray), e = .returned (.tuple #[v, .nilIface]) ∧ Hid (w'.ownsRow B 9 1 v zs.length (zs.flatMap encStr)) ∧ Hid (zs.map bl = tapeL bs) ∧ zs.length ≤ bs.length ∧ DiskIs w' B b (recsL (tapeL bs)) false (-1) ∧ Onto B w w' := by
  have C := Lib.hid (diskOn_any B b bs off c w h)
  clear h
  go_enter Tryd.func20, Tryd.ntmps20
  go_wp2_with fail
  refine C.out.mono ?_
  clear C
  rintro e w1 ⟨rfl, ⟨hB, v, hb, hbuf⟩, HO1⟩
  have hT := hEB w1 HO1.below
  have hB1 : B ≤ w1.heap.size := Nat.le_trans hBw HO1.below.size
  have hcl : (cellsL bs).length = bs.length := byteCells_length bs
  have c0 : w1.cell? ⟨b, 0, none⟩ = some v := by rw [Lib.cell_of_heap hb]; rfl
  have hcv := convert_buf hbuf
  have hbw : b < w1.heap.size := (Array.getElem?_eq_some_iff.1 hb).1
  have CR := Lib.hid (read_any ⟨bs.toArray⟩ w1 (by show bs.toArray.size ≤ _; simp; omega) hT)
  rw [bytesOf] at CR
  have HC := Lib.hid (fun n hn => hbuf.cut n hn)
  obtain ⟨ao, cap, rfl⟩ : ∃ ao cap, v = .slice ao bs.length cap := by
    obtain ⟨ao, cap, h1, _⟩ := hbuf.cut 0 (Nat.zero_le _)
    exact ⟨ao, cap, by rw [h1, hcl]⟩
  go_wp2_with fail
  refine CR.out.mono ?_
  clear CR
  rintro e w2 ⟨v2, zs, n, rfl, HZ, HM, HN, hn, hzl, hb2⟩
  obtain ⟨ao3, cap3, e3, hcap, hao, hbuf2⟩ := HC.out n (by omega)
  rw [hcl] at e3 hcap
  injection e3 with e3 e4 e5
  subst e3; subst e5
  clear HC
  have d0 : w2.cell? ⟨b, 0, none⟩ = some (.slice ao bs.length cap) := (hb2.cell (p := ⟨b, 0, none⟩) hbw).trans c0
  have hb3 : w2.heap[b]? = _ := (hb2.block b hbw).trans hb
  have f0 : w2.frozen? ⟨b, 0, none⟩ = false := Lib.frozen_of_heap hb3 0
  clear c0 hcv
  obtain ⟨q1, q2, q3⟩ := disk_put hB hb3 0 (.slice ao n n)
  have hbuf3 := q3 _ _ (hbuf2.below hb2)
  go_wp2_with fail
  go_ret2
  have hW2 := q2.below.size
  refine ⟨_, zs, rfl, ?_, HM, hzl, ⟨hB, _, q1, ?_⟩, (HO1.trans (Onto.of hb2 hB1)).trans q2⟩
  · exact owns_base (q2.owns HZ.out (by decide) (by decide)) hB1
  · have : (cellsL bs).take n = cellsL (recsL (tapeL bs)) := by
      show (Lib.byteCells bs).take n = Lib.byteCells (recsL (tapeL bs))
      unfold Lib.byteCells
      rw [← List.map_take, HN.out, HM.out, tapeL_prefix]
    rw [← this]
    exact hbuf3
end Go.Proofs.YtpafddeakanopaaDoor
