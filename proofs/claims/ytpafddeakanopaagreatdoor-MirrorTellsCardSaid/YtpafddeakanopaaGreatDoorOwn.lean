/- What the call owns, a row of elements: reads as its list. -/
import Derived.Test.YtpafddeakanopaaGreatDoorRow
namespace Go.Proofs.YtpafddeakanopaaGreatDoor
open Go Go.RowKit

theorem flatMap_at {α : Type} (enc : α → List Value) (size : Nat) (hs : ∀ x, (enc x).length = size) : ∀ (l : List α) (i j : Nat) (hi : i < l.length), j < size → (l.flatMap enc)[i * size + j]? = (enc l[i])[j]?
  | [], i, j, hi, _ => absurd hi (Nat.not_lt_zero _)
  | x :: l, 0, j, _, hj => by
    simp only [List.flatMap_cons, Nat.zero_mul, Nat.zero_add, List.getElem_cons_zero]
    rw [List.getElem?_append_left (by rw [hs]; exact hj)]
  | x :: l, i + 1, j, hi, hj => by
    simp only [List.flatMap_cons, List.getElem_cons_succ]
    rw [List.getElem?_append_right (by rw [hs, Nat.succ_mul]; omega), hs, Nat.succ_mul, show i * size + size + j - size = i * size + j by omega]
    exact flatMap_at enc size hs l i j (by simpa using hi) hj
theorem flatMap_len {α : Type} (enc : α → List Value) (size : Nat) (hs : ∀ x, (enc x).length = size) (l : List α) : (l.flatMap enc).length = l.length * size := by
  induction l with
  | nil => simp
  | cons x l ih => rw [List.flatMap_cons, List.length_append, ih, hs, List.length_cons, Nat.succ_mul]; omega

theorem Row.of_owns {α : Type} {enc : α → List Value} {size base : Nat} {e : TypeId} {w : World} {v : Value} {l : List α} (hs : ∀ x, (enc x).length = size) (h : w.ownsRow base e size v l.length (l.flatMap enc)) : Row enc size w v l := by
  rcases h.2 with ⟨rfl, h0⟩ | ⟨g, cap, cur, rfl, hb, hg, hn, hc, hsz, ht⟩
  · exact .inl ⟨rfl, List.eq_nil_of_length_eq_zero h0⟩
  · refine .inr ⟨g, 0, cap, rfl, hn, hc, (Array.getElem?_eq_some_iff.1 hg).1, fun i hi j hj => ?_⟩
    have h1 := flatMap_at enc size hs l i j hi hj
    have h2 : (enc l[i])[j]? = some ((enc l[i]).getD j undef) := by
      rw [List.getD, List.getElem?_eq_getElem (by rw [hs]; exact hj)]; rfl
    rw [h2] at h1
    have h3 := h.cells (g := g) rfl (i * size + j) _ h1
    have hadd : (⟨g, 0, none⟩ : Addr).add (i * size + j) = ⟨g, 0 + i * size + j, none⟩ := by
      rw [Addr.add_lit]; simp
    rwa [hadd] at h3

/-- What is owned and what is elsewhere: kept by what grows below. -/
theorem owns_below {base : Nat} {e : TypeId} {size : Nat} {w w' : World} {v : Value} {n : Nat} {xs : List Value} (h : w.ownsRow base e size v n xs) (hb : Below w.heap.size w w') : w'.ownsRow base e size v n xs :=
  h.kept (row := none) ⟨hb.os, hb.tape, hb.output, hb.size, fun k hk _ => hb.block k hk⟩ (by cases v.ownBlock <;> simp)
end Go.Proofs.YtpafddeakanopaaGreatDoor
