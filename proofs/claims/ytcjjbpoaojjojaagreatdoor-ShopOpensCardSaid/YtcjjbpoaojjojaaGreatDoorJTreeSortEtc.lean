/- tree.Sort: the contract. tree.Under: the contract. tree.Strip: the contract. tree.Graft: the contract. -/
import Derived.Test.YtcjjbpoaojjojaaGreatDoorJSortTail
import Derived.Test.YtcjjbpoaojjojaaGreatDoorJToldEtc
import Derived.Test.YtcjjbpoaojjojaaGreatDoorJTreePlains
import Derived.Test.YtcjjbpoaojjojaaGreatDoorJFilesEtc
import Derived.IntWalk
import Derived.Test.YtcjjbpoaojjojaaGreatDoorJCleanUp
namespace Go.Proofs.YtcjjbpoaojjojaaGreatDoor
open Go Go.RowKit

/-- What a function over trees hands back: an error, files. -/
def TPost (E : Nat → Addr) (r : Er × List FileB) (w : World) (e : Ending) (w' : World) : Prop :=
  (∃ v ev, e = .returned (.tuple #[v, ev]) ∧ Hid (IsErr E w' ev r.1) ∧ Hid (FOwn w' w.heap.size v r.2)) ∧ Below w.heap.size w w'
theorem TPost.none {E : Nat → Addr} {er : Er} {w w' : World} {ev : Value} (h : Hid (IsErr E w' ev er)) (hb : Below w.heap.size w w') : TPost E (er, []) w (.returned (.tuple #[.slice none 0 0, ev])) w' :=
  ⟨⟨_, _, rfl, h, FOwn.nil _ _⟩, hb⟩
theorem FOwn.row {w : World} {base : Nat} {v : Value} {l : List FileB} (h : FOwn w base v l) : FRow w v l := h.arg.1
end Go.Proofs.YtcjjbpoaojjojaaGreatDoor

namespace Go.Proofs.YtcjjbpoaojjojaaGreatDoor
open Go Go.RowKit

/-- A row of the call's own, behind a store elsewhere. -/
theorem FOwn.store {w : World} {base : Nat} {v : Value} {l : List FileB} (h : FOwn w base v l) {q o : Nat} (hq : ∀ g, v.ownBlock = some g → g ≠ q) (x : Value) : FOwn (w.setCell ⟨q, o, none⟩ x) base v l := by
  refine World.ownsRow.kept h (row := some q) ⟨rfl, rfl, rfl, (KeepsWalks.setCell w _ x).size, fun k _ hk => Below.heap_setCell _ _ _ k (fun e => hk (by rw [e]))⟩ ?_
  cases hv : v.ownBlock with
  | none => exact .inl rfl
  | some g => exact .inr (fun e => hq g hv (by cases e; rfl))

end Go.Proofs.YtcjjbpoaojjojaaGreatDoor

namespace Go.Proofs.YtcjjbpoaojjojaaGreatDoor
open Go Go.RowKit

theorem FEnv.clean {E : Nat → Addr} {w : World} (h : FEnv E w) : CEnv E w := ⟨h.2, h.1.eShape, h.1.eOut⟩
theorem FEnv.strip {E : Nat → Addr} {w : World} (h : FEnv E w) : SEnv E w := ⟨h.clean, h.1.eBound⟩
theorem TPost.low {E : Nat → Addr} {r : Er × List FileB} {w w1 w' : World} {e : Ending} (h : TPost E r w1 e w') (hb : Below w.heap.size w w1) : TPost E r w e w' := by
  obtain ⟨⟨v, ev, he, hI, hO⟩, hb2⟩ := h
  exact ⟨⟨v, ev, he, hI, FOwn.low hO.out hb.size⟩, hb.trans (hb2.mono hb.size)⟩
end Go.Proofs.YtcjjbpoaojjojaaGreatDoor

namespace Go.Proofs.YtcjjbpoaojjojaaGreatDoor
open Go Go.RowKit

theorem cleanT_len {s : List UInt8} (h : cleanE s = 0) : (cleanT s).length ≤ 78 := by
  have key : ∀ w : List (List UInt8), w.all partB = true → ([47].intercalate w : List UInt8).length ≤ w.length * 13 := by
    intro w
    induction w with
    | nil => intro _; simp [List.intercalate]
    | cons x r ih =>
      intro h
      rw [List.all_cons, Bool.and_eq_true] at h
      have hp : x.length ≤ 12 := by
        have h1 := h.1
        unfold partB at h1
        simp only [Bool.and_eq_true, decide_eq_true_eq] at h1
        exact h1.1.1.1.2
      cases r with
      | nil => simp [List.intercalate]; omega
      | cons y r =>
        have := ih h.2
        rw [join_cons, List.length_append, List.length_cons]
        simp only [List.length_cons] at this ⊢; omega
  obtain ⟨_, _, h3, h4, h5⟩ := cleanE_parts h
  rw [h5]
  have := key _ h3
  omega
end Go.Proofs.YtcjjbpoaojjojaaGreatDoor
