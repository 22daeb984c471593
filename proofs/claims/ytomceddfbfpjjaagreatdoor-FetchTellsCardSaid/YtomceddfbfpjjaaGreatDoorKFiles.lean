/- chandlerylaw1.LongFiles, OwnFiles: contracts; files that the call owns. A law's fault is stored anew: errors and files stay. -/
import Derived.Test.YtomceddfbfpjjaaGreatDoorKTreed
import Derived.Laws.AppendOwnNone
import Derived.Maps.AppendAt
import Derived.Test.YtomceddfbfpjjaaGreatDoorKTold
namespace Go.Proofs.YtomceddfbfpjjaaGreatDoor
open Go Go.RowKit

/-- Files as an argument: a row; nil, if it has no address. -/
def FArg (w : World) (v : Value) (l : List FileB) : Prop := FRow w v l ∧ ∀ n c, v = .slice none n c → n = 0 ∧ c = 0
theorem FArg.ext {w w' : World} {v : Value} {l : List FileB} (h : FArg w v l) (hb : Below w.heap.size w w') : FArg w' v l := ⟨h.1.ext hb, h.2⟩

theorem Tryz.infoFile : (Tryz.prog.info? 68).map (fun i => (i.zero, i.size, i.bytes)) = some (some (.agg #[.string ⟨#[]⟩, .bool false, .string ⟨#[]⟩]), 3, 40) := by kernel_rfl

/-- Files of the call's own. -/
def FOwn (w : World) (base : Nat) (v : Value) (l : List FileB) : Prop := w.ownsRow base 68 3 v l.length (l.flatMap encFile)
theorem FOwn.nil (w : World) (base : Nat) : FOwn w base (.slice none 0 0) [] := World.ownsRow_nil _ _ _ _
theorem FOwn.arg {w : World} {base : Nat} {v : Value} {l : List FileB} (h : FOwn w base v l) : FArg w v l := by
  rcases Row.of_owns (enc := encFile) (fun _ => rfl) h with ⟨rfl, rfl⟩ | ⟨g, off, cap, rfl, hn, hc, hlt, hcell⟩
  · exact ⟨⟨none, 0, rfl, Nat.le_refl _, Nat.zero_le _, fun i hi => absurd hi (Nat.not_lt_zero _)⟩, fun n c e => by injection e with _ e1 e2; exact ⟨e1.symm, e2.symm⟩⟩
  · refine ⟨⟨_, cap, rfl, hn, hc, fun i hi => ⟨g, off, rfl, hlt, fun k hk => ?_⟩⟩, fun n c e => by injection e with e0; cases e0⟩
    exact ⟨hcell k hk 0 (by decide), hcell k hk 1 (by decide), hcell k hk 2 (by decide)⟩
theorem FOwn.low {w : World} {base B : Nat} {v : Value} {l : List FileB} (h : FOwn w base v l) (hB : B ≤ base) : FOwn w B v l := by
  refine ⟨h.1, ?_⟩
  rcases h.2 with h0 | ⟨g, cap, cur, hv, hb, hr⟩
  · exact .inl h0
  · exact .inr ⟨g, cap, cur, hv, Nat.le_trans hB hb, hr⟩
theorem FOwn.shape {w : World} {base : Nat} {v : Value} {l : List FileB} (h : FOwn w base v l) : ∃ ao cap, v = .slice ao l.length cap := by
  obtain ⟨⟨ao, cap, h1, _⟩, _⟩ := h.arg
  exact ⟨ao, cap, h1⟩
theorem FOwn.ext {w w' : World} {base : Nat} {v : Value} {l : List FileB} (h : FOwn w base v l) (hb : Below w.heap.size w w') : FOwn w' base v l := owns_below h hb

/-- What LongFiles says: 0 for files that are few and short. -/
def LFPost (l : List FileB) (w : World) (e : Ending) (w' : World) : Prop := (∃ n : Int, e = .returned (.int .i64 n) ∧ (n = 0 ∨ n = 1) ∧ Hid (n = 0 → l.length ≤ 31 ∧ ∀ f ∈ l, f.path.size ≤ 100 ∧ f.text.size ≤ 4001)) ∧ w = w'
theorem LFPost.one {l : List FileB} {w : World} : LFPost l w (.returned (.int .i64 1)) w := ⟨⟨1, rfl, .inr rfl, fun h => by cases h⟩, rfl⟩

end Go.Proofs.YtomceddfbfpjjaaGreatDoor

namespace Go.Proofs.YtomceddfbfpjjaaGreatDoor
open Go Go.RowKit

/-- A fault's block. -/
def FaultAt (w : World) (q : Nat) (c a : Int) : Prop := w.heap[q]? = some (.cells #[.int .i64 c, .int .i64 a] 50 (0, 0))
theorem FaultAt.lt {w : World} {q : Nat} {c a : Int} (h : FaultAt w q c a) : q < w.heap.size := (Array.getElem?_eq_some_iff.1 h).1
theorem FaultAt.ext {w w' : World} {q : Nat} {c a : Int} (h : FaultAt w q c a) (hb : Below w.heap.size w w') : FaultAt w' q c a := (hb.block q h.lt).trans h
theorem FaultAt.new (w : World) (c a : Int) : FaultAt (w.alloc (.cells #[.int .i64 c, .int .i64 a] 50)) w.heap.size c a := heap_alloc_new _ _
theorem FaultAt.cells {w : World} {q : Nat} {c a : Int} (h : FaultAt w q c a) : w.cell? ⟨q, 0, none⟩ = some (.int .i64 c) ∧ w.cell? ⟨q, 1, none⟩ = some (.int .i64 a) ∧ w.frozen? ⟨q, 0, none⟩ = false ∧ w.frozen? ⟨q, 1, none⟩ = false :=
  ⟨by rw [Lib.cell_of_heap h]; rfl, by rw [Lib.cell_of_heap h]; rfl, Lib.frozen_of_heap h 0, Lib.frozen_of_heap h 1⟩
theorem FaultAt.cell_int {w : World} {q : Nat} {c a : Int} (h : FaultAt w q c a) (k : Nat) (v : Value) (hv : w.cell? ⟨q, k, none⟩ = some v) : ∃ n, v = .int .i64 n := by
  rw [Lib.cell_of_heap h] at hv
  match k, hv with
  | 0, hv => exact ⟨c, (Option.some.inj hv).symm⟩
  | 1, hv => exact ⟨a, (Option.some.inj hv).symm⟩
  | k + 2, hv => simp at hv
theorem FaultAt.store {w : World} {q : Nat} {c a : Int} (h : FaultAt w q c a) (x y : Int) : FaultAt ((w.setCell ⟨q, 0, none⟩ (.int .i64 x)).setCell ⟨q, 1, none⟩ (.int .i64 y)) q x y := by
  unfold FaultAt at h ⊢
  simp [World.setCell, Array.getElem?_modify, h]
theorem store_block (w : World) (q : Nat) (x y : Value) (b : Nat) (hne : b ≠ q) : ((w.setCell ⟨q, 0, none⟩ x).setCell ⟨q, 1, none⟩ y).heap[b]? = w.heap[b]? := by
  rw [Below.heap_setCell _ _ _ _ hne, Below.heap_setCell _ _ _ _ hne]
theorem store_cell (w : World) (q : Nat) (x y : Value) (b k : Nat) (hne : b ≠ q) : ((w.setCell ⟨q, 0, none⟩ x).setCell ⟨q, 1, none⟩ y).cell? ⟨b, k, none⟩ = w.cell? ⟨b, k, none⟩ :=
  World.cell?_of_block (w := w) (a := ⟨b, k, none⟩) (store_block w q x y b hne)
theorem IsErr.store {E : Nat → Addr} {w : World} {v : Value} {er : Er} {q : Nat} {c a : Int} (h : IsErr E w v er) (hq : FaultAt w q c a) (x y : Value) : IsErr E ((w.setCell ⟨q, 0, none⟩ x).setCell ⟨q, 1, none⟩ y) v er := by
  rcases h with h | h | ⟨k, a', b, hk, h1, h2, h3, h4⟩
  · exact .inl h
  · exact .inr (.inl h)
  · have hne : b ≠ q := by
      rintro rfl
      obtain ⟨n, hn⟩ := hq.cell_int 1 _ h4
      cases hn
    exact .inr (.inr ⟨k, a', b, hk, h1, h2, by rw [store_cell _ _ _ _ _ _ hne]; exact h3, by rw [store_cell _ _ _ _ _ _ hne]; exact h4⟩)
theorem FArg.store {w : World} {v : Value} {l : List FileB} {q : Nat} {c a : Int} (h : FArg w v l) (hq : FaultAt w q c a) (x y : Value) : FArg ((w.setCell ⟨q, 0, none⟩ x).setCell ⟨q, 1, none⟩ y) v l := by
  obtain ⟨⟨ao, cap, h1, h2, h3, h4⟩, hn⟩ := h
  refine ⟨⟨ao, cap, h1, h2, h3, fun i hi => ?_⟩, hn⟩
  obtain ⟨b, off, e, hbl, hc⟩ := h4 i hi
  have hne : b ≠ q := by
    rintro rfl
    obtain ⟨n, hn⟩ := hq.cell_int _ _ (hc i hi).1
    cases hn
  refine ⟨b, off, e, by simpa using hbl, fun k hk => ?_⟩
  obtain ⟨q0, q1, q2⟩ := hc k hk
  exact ⟨by rw [store_cell _ _ _ _ _ _ hne]; exact q0, by rw [store_cell _ _ _ _ _ _ hne]; exact q1, by rw [store_cell _ _ _ _ _ _ hne]; exact q2⟩
/-- A fault's block, where another fault is stored. -/
theorem FaultAt.other {w : World} {g q : Nat} {c a : Int} (h : FaultAt w g c a) (hq : g ≠ q) (x y : Value) : FaultAt ((w.setCell ⟨q, 0, none⟩ x).setCell ⟨q, 1, none⟩ y) g c a := (store_block w q x y g hq).trans h
end Go.Proofs.YtomceddfbfpjjaaGreatDoor
