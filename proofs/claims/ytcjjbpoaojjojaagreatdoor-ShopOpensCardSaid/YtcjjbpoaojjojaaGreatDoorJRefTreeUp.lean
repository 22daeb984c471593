/- The reference's DropFile: the contract. The reference's StripTree: the contract. A row of files as the source of an append: own steps of the walk. The reference's GraftOf: the contract. The reference's PutFile: the contract. The reference's SortTree: the contract. -/
import Derived.Test.YtcjjbpoaojjojaaGreatDoorJTreeSortEtc
import Derived.Test.YtcjjbpoaojjojaaGreatDoorJTreeDrops
import Derived.Test.YtcjjbpoaojjojaaGreatDoorJRefTree
import Derived.Test.YtcjjbpoaojjojaaGreatDoorJFilesEtc
import Derived.Test.YtcjjbpoaojjojaaGreatDoorJRefLinkUp
import Derived.Test.YtcjjbpoaojjojaaGreatDoorJTreeSearchEtc
import Derived.BigQuiet
namespace Go.Proofs.YtcjjbpoaojjojaaGreatDoor
open Go Go.RowKit

/-- What the reference's functions over trees hand back. -/
def RPost (r : Er × List FileB) (w : World) (e : Ending) (w' : World) : Prop :=
  (∃ v, e = .returned (.tuple #[v, .agg (erA r.1)]) ∧ Hid (FOwn w' w.heap.size v r.2)) ∧ Below w.heap.size w w'
/-- A fault at the result's block. -/
theorem fault_end {w : World} {g : Nat} {c a : Int} (h : FaultAt w g c a) (x y : Int) (B : Nat) (hg : B ≤ g) :
    ((w.setCell ⟨g, 0, none⟩ (.int .i64 x)).setCell ⟨g, 1, none⟩ (.int .i64 y)).cell? ⟨g, 0, none⟩ = some (.int .i64 x) ∧ ((w.setCell ⟨g, 0, none⟩ (.int .i64 x)).setCell ⟨g, 1, none⟩ (.int .i64 y)).cell? ⟨g, 1, none⟩ = some (.int .i64 y) ∧ Below B w ((w.setCell ⟨g, 0, none⟩ (.int .i64 x)).setCell ⟨g, 1, none⟩ (.int .i64 y)) :=
  ⟨(h.store x y).cells.1, (h.store x y).cells.2.1, ((Below.refl B w).setCell (p := ⟨g, 0, none⟩) hg _).setCell (p := ⟨g, 1, none⟩) hg _⟩
theorem RPost.fault {r : Er × List FileB} {w w' : World} {v : Value} {c : Nat} {a : Int} (hc : r.1.code = c) (ha : r.1.at?.getD (-1) = a) (h : FOwn w' w.heap.size v r.2) (hb : Below w.heap.size w w') : RPost r w (.returned (.tuple #[v, .agg #[.int .i64 c, .int .i64 a]])) w' :=
  ⟨⟨v, by unfold erA; rw [hc, ha], h⟩, hb⟩
end Go.Proofs.YtcjjbpoaojjojaaGreatDoor

namespace Go.Proofs.YtcjjbpoaojjojaaGreatDoor
open Go Go.RowKit

theorem RPost.low {r : Er × List FileB} {w w1 w' : World} {e : Ending} (h : RPost r w1 e w') (hb : Below w.heap.size w w1) : RPost r w e w' := by
  obtain ⟨⟨v, he, hO⟩, hb2⟩ := h
  exact ⟨⟨v, he, FOwn.low hO.out hb.size⟩, hb.trans (hb2.mono hb.size)⟩

end Go.Proofs.YtcjjbpoaojjojaaGreatDoor

namespace Go.Proofs.YtcjjbpoaojjojaaGreatDoor
open Go Go.RowKit

/-- Files that are read by an append. -/
def FSrc (w : World) (v : Value) (m : List FileB) : Prop :=
  v = .slice none 0 0 ∧ m = [] ∨ ∃ ad cap, v = .slice (some ad) m.length cap ∧ ∀ k, (hk : k < m.length) → ∃ b off, ad = ⟨b, off, none⟩ ∧ w.cell? ⟨b, off + k * 3, none⟩ = some (.string m[k].path) ∧ w.cell? ⟨b, off + k * 3 + 1, none⟩ = some (.bool m[k].run) ∧ w.cell? ⟨b, off + k * 3 + 2, none⟩ = some (.string m[k].text)
theorem FSrc.none (w : World) : FSrc w (.slice none 0 0) [] := .inl ⟨rfl, rfl⟩
theorem FSrc.drop0 {w : World} {ao : Option Addr} {n cap k : Nat} {l : List FileB} (h : FSrc w (.slice ao n cap) l) (hn : l.length = n) (hc : n ≤ cap) (hk : k ≤ n) : FSrc w (.slice (if cap = k then ao else ao.map (·.add (k * 3))) (n - k) (cap - k)) (l.drop k) := by
  rcases h with ⟨h, rfl⟩ | ⟨ad, c, h, hcell⟩
  · injection h with e1 e2 e3
    subst e1 e2 e3
    left
    simp
  · injection h with e1 e2 e3
    subst e1 e3
    right
    by_cases hck : cap = k
    · subst hck
      have : n = cap := by omega
      subst this
      rw [if_pos rfl]
      exact ⟨ad, 0, by simp [hn], fun j hj => absurd hj (by simp [hn])⟩
    · rw [if_neg hck]
      refine ⟨ad.add (k * 3), cap - k, by simp [hn], fun j hj => ?_⟩
      rw [List.length_drop] at hj
      obtain ⟨b, off, rfl, this⟩ := hcell (k + j) (by omega)
      rw [List.getElem_drop]
      refine ⟨b, off + k * 3, by rw [Addr.add_lit], ?_⟩
      rw [show off + k * 3 + j * 3 = off + (k + j) * 3 by omega]
      exact this
theorem FSrc.take0 {w : World} {ao : Option Addr} {n cap k : Nat} {l : List FileB} (h : FSrc w (.slice ao n cap) l) (hn : l.length = n) (hk : k ≤ n) : FSrc w (.slice ao k cap) (l.take k) := by
  rcases h with ⟨h, rfl⟩ | ⟨ad, c, h, hcell⟩
  · injection h with e1 e2 e3
    subst e1 e2 e3
    left
    have : k = 0 := by omega
    subst this; simp
  · injection h with e1 e2 e3
    subst e1 e3
    right
    refine ⟨ad, cap, by rw [List.length_take, Nat.min_eq_left (by omega)], fun j hj => ?_⟩
    rw [List.length_take] at hj
    rw [List.getElem_take]
    exact hcell j (by omega)
theorem FSrc.dropS {w : World} {b off n cap k : Nat} {l : List FileB} (h : FSrc w (.slice (some ⟨b, off, Option.none⟩) n cap) l) (hn : l.length = n) (hc : n ≤ cap) (hk : k ≤ n) : FSrc w (.slice (if cap = k then some ⟨b, off, Option.none⟩ else some ⟨b, off + k * 3, Option.none⟩) (n - k) (cap - k)) (l.drop k) := by
  have := h.drop0 hn hc hk
  rw [Option.map_some, Addr.add_lit] at this
  exact this
theorem FSrc.one (w : World) (f : FileB) (t : TypeId) : FSrc (w.alloc (.cells #[.string f.path, .bool f.run, .string f.text] t)) (.slice (some ⟨w.heap.size, 0, Option.none⟩) 1 1) [f] := by
  refine .inr ⟨⟨w.heap.size, 0, Option.none⟩, 1, rfl, fun k hk => ?_⟩
  have hA := heap_alloc_new w (.cells #[.string f.path, .bool f.run, .string f.text] t)
  have : k = 0 := by simpa using hk
  subst this
  refine ⟨_, _, rfl, ?_, ?_, ?_⟩ <;> rw [Lib.cell_of_heap hA] <;> rfl
theorem FArg.src {w : World} {v : Value} {l : List FileB} (h : FArg w v l) : FSrc w v l := by
  obtain ⟨⟨ao, cap, rfl, h1, h2, h3⟩, hn⟩ := h
  cases ao with
  | none =>
    obtain ⟨h0, rfl⟩ := hn _ _ rfl
    left
    rw [h0]
    exact ⟨rfl, List.eq_nil_of_length_eq_zero h0⟩
  | some ad =>
    right
    refine ⟨ad, cap, rfl, fun k hk => ?_⟩
    obtain ⟨b, off, e, _, hc⟩ := h3 k hk
    injection e with e
    exact ⟨b, off, e, hc k hk⟩
theorem FOwn.src {w : World} {base : Nat} {v : Value} {l : List FileB} (h : FOwn w base v l) : FSrc w v l := h.arg.src
theorem FSrc.ext {w w' : World} {v : Value} {l : List FileB} {B : Nat} (h : FSrc w v l) (hb : Below B w w') (hl : ∀ b o c n, v = .slice (some ⟨b, o, Option.none⟩) n c → b < B) : FSrc w' v l := by
  rcases h with h | ⟨ad, c, rfl, hcell⟩
  · exact .inl h
  · refine .inr ⟨ad, c, rfl, fun k hk => ?_⟩
    obtain ⟨b, off, rfl, q0, q1, q2⟩ := hcell k hk
    have hB := hl _ _ _ _ rfl
    exact ⟨b, off, rfl, by rw [hb.cell (p := ⟨b, off + k * 3, Option.none⟩) hB]; exact q0, by rw [hb.cell (p := ⟨b, off + k * 3 + 1, Option.none⟩) hB]; exact q1, by rw [hb.cell (p := ⟨b, off + k * 3 + 2, Option.none⟩) hB]; exact q2⟩

end Go.Proofs.YtcjjbpoaojjojaaGreatDoor

namespace Go.Proofs.YtcjjbpoaojjojaaGreatDoor
open Go Go.RowKit

end Go.Proofs.YtcjjbpoaojjojaaGreatDoor

namespace Go.Proofs.YtcjjbpoaojjojaaGreatDoor
open Go Go.RowKit

end Go.Proofs.YtcjjbpoaojjojaaGreatDoor

namespace Go.Proofs.YtcjjbpoaojjojaaGreatDoor
open Go Go.RowKit

end Go.Proofs.YtcjjbpoaojjojaaGreatDoor
