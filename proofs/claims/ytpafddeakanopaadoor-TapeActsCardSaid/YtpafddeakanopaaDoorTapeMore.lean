/- More of the tape for TapeActs: Cut at any number, the bound, how disk and reference's tape leave each other. -/
import Derived.Test.YtpafddeakanopaaDoorRefTape
import Derived.Test.YtpafddeakanopaaDoorCodedThree
import Derived.Test.YtpafddeakanopaaDoorTaped
namespace Go.Proofs.YtpafddeakanopaaDoor
open Go Go.RowKit

theorem DiskIs.but {w w' : World} {B b m : Nat} {bs : List UInt8} {off : Bool} {c : Int} {rb : ByteArray} {roff : Bool} {rc : Int} (h : DiskIs w B b bs off c) (hm : RTapeIs w m rb roff rc) (hb : But m w w') : DiskIs w' B b bs off c := by
  unfold RTapeIs at hm
  have ne : ∀ (q : Nat) (cs : Array Value) (T : TypeId) (fz : Nat × Nat), w.heap[q]? = some (.cells cs T fz) → T ≠ 51 → w'.heap[q]? = some (.cells cs T fz) := by
    intro q cs T fz hq hT
    rw [hb.block q (Array.getElem?_eq_some_iff.1 hq).1 (fun e => hT ?_)]
    · exact hq
    · subst e
      rw [hm] at hq
      injection hq with hq
      injection hq with _ h4 _
      exact h4.symm
  obtain ⟨h1, v, h2, h3⟩ := h
  refine ⟨h1, v, ne _ _ _ _ h2 (by decide), ?_⟩
  rcases h3 with h3 | ⟨q, qc, cur, lo, hi, e1, e2, e3, e4⟩
  · exact .inl h3
  · exact .inr ⟨q, qc, cur, lo, hi, e1, e2, ne _ _ _ _ e3 (by decide), e4⟩
theorem RTapeIs.onto {w w' : World} {B m : Nat} {rb : ByteArray} {roff : Bool} {rc : Int} (h : RTapeIs w m rb roff rc) (ho : Onto B w w') : RTapeIs w' m rb roff rc := by
  refine ho.keep m _ h ?_
  rintro (⟨c, fz, he⟩ | ⟨c, fz, he⟩)
  · injection he with _ h3 _; exact absurd h3 (by decide)
  · injection he with _ h3 _; exact absurd h3 (by decide)
theorem RTapeIs.below {w w' : World} {m : Nat} {rb : ByteArray} {roff : Bool} {rc : Int} (h : RTapeIs w m rb roff rc) (hb : Below w.heap.size w w') : RTapeIs w' m rb roff rc := by
  unfold RTapeIs at h ⊢
  rw [hb.block m (Array.getElem?_eq_some_iff.1 h).1]; exact h

/-- What Cut answers and leaves. -/
def CutPostT (B b : Nat) (bs : List UInt8) (r : Int × Bool × Int) (v2 v13 : Value) (w : World) (e : Ending) (w' : World) : Prop :=
  e = .returned (if r.1 = 0 then .nilIface else if r.1 = 2 then v2 else v13) ∧ DiskIs w' B b bs r.2.1 r.2.2 ∧ Onto B w w'

set_option maxRecDepth 100000 in
theorem diskCutAll_any (B b : Nat) (bs : List UInt8) (off : Bool) (c n : Int) (v2 v13 : Value) (w : World) (h : DiskIs w B b bs off c) (h2 : w.cell? ⟨0, 0, none⟩ = some v2) (h13 : w.cell? ⟨1, 0, none⟩ = some v13) :
    Calls Tryd.prog 18 #[.pointer (some ⟨b, 0, none⟩), .int .i64 n] w (CutPostT B b bs (setCutR off c n) v2 v13 w) := by
  have hD := h
  obtain ⟨hB, v, hb, hbuf⟩ := h
  have c1 : w.cell? ⟨b, 1, none⟩ = some (.bool off) := by rw [Lib.cell_of_heap hb]; rfl
  have c2 : w.cell? ⟨b, 2, none⟩ = some (.int .i64 c) := by rw [Lib.cell_of_heap hb]; rfl
  have f2 : w.frozen? ⟨b, 2, none⟩ = false := Lib.frozen_of_heap hb 2
  obtain ⟨p1, p2, p3⟩ := disk_put hB hb 2 (.int .i64 n)
  by_cases hn : n < 0
  · have hr : setCutR off c n = (2, off, c) := by unfold setCutR; rw [if_pos hn]
    rw [hr]
    clear hr
    go_enter Tryd.func18, Tryd.ntmps18
    go_wp2_with fail
    go_ret
    exact ⟨rfl, hD, Onto.refl _ _⟩
  · cases off with
    | true =>
      have hr : setCutR true c n = (13, true, c) := by unfold setCutR; rw [if_neg hn, if_pos rfl]
      rw [hr]
      clear hr
      go_enter Tryd.func18, Tryd.ntmps18
      go_wp2_with fail
      go_ret
      exact ⟨rfl, hD, Onto.refl _ _⟩
    | false =>
      have hr : setCutR false c n = (0, false, n) := by unfold setCutR; rw [if_neg hn, if_neg (by decide)]
      rw [hr]
      clear hr
      go_enter Tryd.func18, Tryd.ntmps18
      go_wp2_with fail
      go_ret
      exact ⟨rfl, ⟨hB, v, p1, p3 _ _ hbuf⟩, p2⟩

set_option maxRecDepth 100000 in
theorem refBound_any (m : Nat) (s : ByteArray) (w : World) (hs : 20000 < s.size) :
    Calls Tryd.prog 25 #[.pointer (some ⟨m, 0, none⟩), .string s] w fun e w' => e = .returned (.int .i64 2) ∧ w = w' := by
  go_enter Tryd.func25, Tryd.ntmps25
  go_wp2_with fail
  go_ret
  exact ⟨rfl, rfl⟩
end Go.Proofs.YtpafddeakanopaaDoor
