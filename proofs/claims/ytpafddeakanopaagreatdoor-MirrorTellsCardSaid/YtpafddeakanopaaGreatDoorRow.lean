/- A slice value that reads as a list: each element's cells. -/
import Derived.Test.YtpafddeakanopaaGreatDoorEnv
import Derived.Deep.QuietTactic
import Derived.BigQuiet
namespace Go.Proofs.YtpafddeakanopaaGreatDoor
open Go Go.RowKit

/-- The slice value v reads in w as the list l; element x takes the cells 'enc x', so many each. -/
def Row {α : Type} (enc : α → List Value) (size : Nat) (w : World) (v : Value) (l : List α) : Prop :=
  (v = .slice none 0 0 ∧ l = []) ∨ ∃ b off cap, v = .slice (some ⟨b, off, none⟩) l.length cap ∧ l.length ≤ cap ∧ cap ≤ maxLen ∧ b < w.heap.size ∧
    ∀ i, (hi : i < l.length) → ∀ j, j < size → w.cell? ⟨b, off + i * size + j, none⟩ = some ((enc l[i]).getD j undef)

theorem Row.ext {α : Type} {enc : α → List Value} {size : Nat} {w w' : World} {v : Value} {l : List α} (h : Row enc size w v l) (hb : Below w.heap.size w w') : Row enc size w' v l := by
  rcases h with h | ⟨b, off, cap, h1, h2, h3, h4, h5⟩
  · exact .inl h
  · exact .inr ⟨b, off, cap, h1, h2, h3, Nat.lt_of_lt_of_le h4 hb.size, fun i hi j hj => by rw [hb.cell (p := ⟨b, off + i * size + j, none⟩) h4]; exact h5 i hi j hj⟩

theorem Row.nil {α : Type} (enc : α → List Value) (size : Nat) (w : World) : Row enc size w (.slice none 0 0) ([] : List α) := .inl ⟨rfl, rfl⟩

abbrev encInt (n : Int) : List Value := [.int .i64 n]
abbrev encStr (s : ByteArray) : List Value := [.string s]

/-- Elements of one cell. -/
theorem Row.one {α : Type} {f : α → Value} {w : World} {v : Value} {l : List α} (h : Row (fun x => [f x]) 1 w v l) :
    (v = .slice none 0 0 ∧ l = []) ∨ ∃ b off cap, v = .slice (some ⟨b, off, none⟩) l.length cap ∧ l.length ≤ cap ∧ cap ≤ maxLen ∧ b < w.heap.size ∧
      ∀ i, (hi : i < l.length) → w.cell? ⟨b, off + i, none⟩ = some (f l[i]) := by
  rcases h with h | ⟨b, off, cap, h1, h2, h3, h4, h5⟩
  · exact .inl h
  · exact .inr ⟨b, off, cap, h1, h2, h3, h4, fun i hi => by simpa using h5 i hi 0 (by decide)⟩

/-- The same, nil or not: where there is an element there is an address. -/
theorem Row.parts {α : Type} {f : α → Value} {w : World} {v : Value} {l : List α} (h : Row (fun x => [f x]) 1 w v l) :
    ∃ ao cap, v = .slice ao l.length cap ∧ l.length ≤ cap ∧ cap ≤ maxLen ∧ (∀ i, (hi : i < l.length) → ∃ b off, ao = some ⟨b, off, none⟩ ∧ b < w.heap.size ∧ ∀ k, (hk : k < l.length) → w.cell? ⟨b, off + k, none⟩ = some (f l[k])) := by
  rcases h.one with ⟨rfl, rfl⟩ | ⟨b, off, cap, rfl, h1, h2, h3, h4⟩
  · exact ⟨none, 0, rfl, Nat.le_refl _, Nat.zero_le _, fun i hi => absurd hi (Nat.not_lt_zero _)⟩
  · exact ⟨some ⟨b, off, none⟩, cap, rfl, h1, h2, fun i hi => ⟨b, off, rfl, h3, h4⟩⟩

theorem below_drewN (B : Nat) (w : World) (n : Nat) : Below B w (w.drewN n) := ⟨rfl, rfl, rfl, Nat.le_refl _, fun _ _ => rfl⟩
theorem maxLen_eq : maxLen = 9223372036854775807 := rfl
/-- A new block of single cells reads as its list. -/
theorem Row.block1 {α : Type} (f : α → Value) (w : World) (l : List α) (t : TypeId) (hl : l.length ≤ maxLen) (b n : Nat) (hb : b = w.heap.size) (hn : n = l.length) :
    Row (fun x => [f x]) 1 (w.alloc (.cells (l.map f).toArray t)) (.slice (some ⟨b, 0, none⟩) n n) l := by
  subst hb; subst hn
  refine .inr ⟨w.heap.size, 0, l.length, rfl, Nat.le_refl _, hl, by simp, fun i hi j hj => ?_⟩
  obtain rfl : j = 0 := by omega
  rw [World.cell?_alloc_at _ _ _ _ rfl]
  simp [hi]
end Go.Proofs.YtpafddeakanopaaGreatDoor
