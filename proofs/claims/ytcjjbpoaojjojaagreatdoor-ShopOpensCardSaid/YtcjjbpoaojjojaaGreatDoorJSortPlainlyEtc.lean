/- The stable sort's merging, in plain Lean: what a rotation leaves, and why halves that do not cross are sorted. The stable sort's exchanges: swapRangeCmpFunc, rotateCmpFunc at files: contracts. The stable sort's rotation at files: a contract. The stable sort's merging at files: symMergeCmpFunc where one side is of one element. The stable sort at files: what its merging is told of shorter parts. The stable sort's merging, in plain Lean: two halves that do not cross, each sorted by itself, are sorted together. The stable sort by blocks, in plain Lean: what each merging leaves sorted. -/
import Derived.Sort.LotA
import Derived.Test.YtcjjbpoaojjojaaGreatDoorJToldEtc
import Derived.Shelf.SlSortCmp.KitK
import Derived.BigRegion
import Derived.Shelf.SlSortCmp.QuietGrown
namespace Go.Proofs.YtcjjbpoaojjojaaGreatDoor
open Go Go.Sort
variable {α : Type} [Inhabited α]

/-- d' is d with [a, m) and [m, b) exchanged as blocks. -/
def RotIn (a m b : Nat) (d d' : Array α) : Prop :=
  d'.size = d.size ∧ ∀ p, d'[p]! = if a ≤ p ∧ p < a + (b - m) then d[p + (m - a)]! else if a + (b - m) ≤ p ∧ p < b then d[p - (b - m)]! else d[p]!
theorem RotIn.left {a b : Nat} (d : Array α) : RotIn a a b d d := ⟨rfl, fun p => by
  repeat' split
  all_goals first | rfl | (exfalso; omega) | (congr 1; omega)⟩
theorem RotIn.right {a b : Nat} (_ : a ≤ b) (d : Array α) : RotIn a b b d d := ⟨rfl, fun p => by
  repeat' split
  all_goals first | rfl | (exfalso; omega) | (congr 1; omega)⟩
/-- The two blocks of one length. -/
def SwapsIn (a b n : Nat) (d d' : Array α) : Prop :=
  d'.size = d.size ∧ ∀ p, d'[p]! = if a ≤ p ∧ p < a + n then d[p + (b - a)]! else if b ≤ p ∧ p < b + n then d[p - (b - a)]! else d[p]!
theorem SwapsIn.zero (a b : Nat) (d : Array α) : SwapsIn a b 0 d d := ⟨rfl, fun p => by
  repeat' split
  all_goals first | rfl | (exfalso; omega) | (congr 1; omega)⟩
theorem SwapsIn.step {a b n : Nat} {d d' : Array α} (h : SwapsIn a b n d d') (hab : a + n < b) (hb : b + n < d.size) : SwapsIn a b (n + 1) d (swp d' (a + n) (b + n)) := by
  refine ⟨by rw [swp_size]; exact h.1, fun p => ?_⟩
  rw [swp_get d' (by rw [h.1]; omega) (by rw [h.1]; omega)]
  simp only [h.2]
  repeat' split
  all_goals first | rfl | (exfalso; omega) | (congr 1; omega)
/-- A step of the rotation: the left block is the longer one. -/
theorem RotIn.long {i j m : Nat} {d d1 d2 : Array α} (hs : SwapsIn (m - i) m j d d1) (hi : j < i) (him : i ≤ m) (h : RotIn (m - (i - j)) m (m + j) d1 d2) : RotIn (m - i) m (m + j) d d2 := by
  refine ⟨h.1.trans hs.1, fun p => ?_⟩
  rw [h.2]
  simp only [hs.2]
  repeat' split
  all_goals first | rfl | (exfalso; omega) | (congr 1; omega)
/-- The right block is the longer one. -/
theorem RotIn.short {i j m : Nat} {d d1 d2 : Array α} (hs : SwapsIn (m - i) (m + j - i) i d d1) (hi : i < j) (him : i ≤ m) (h : RotIn (m - i) m (m + (j - i)) d1 d2) : RotIn (m - i) m (m + j) d d2 := by
  refine ⟨h.1.trans hs.1, fun p => ?_⟩
  rw [h.2]
  simp only [hs.2]
  repeat' split
  all_goals first | rfl | (exfalso; omega) | (congr 1; omega)
variable {lt : α → α → Bool}
theorem sorted_part {a b a' b' : Nat} {d : Array α} (h : SortedIn lt a b d) (ha : a ≤ a') (hb : b' ≤ b) : SortedIn lt a' b' d := fun i j hi hij hj => h i j (by omega) hij (by omega)
/-- A step of one element, upward: a rotation grows. -/
theorem RotIn.up {a i : Nat} {d d' : Array α} (h : RotIn a (a + 1) (i + 1) d d') (hi : a ≤ i) (hs : i + 1 < d.size) : RotIn a (a + 1) (i + 2) d (swp d' i (i + 1)) := by
  refine ⟨by rw [swp_size]; exact h.1, fun p => ?_⟩
  rw [swp_get d' (by rw [h.1]; omega) (by rw [h.1]; omega)]
  simp only [h.2]
  repeat' split
  all_goals first | rfl | (exfalso; omega) | (congr 1; omega)
end Go.Proofs.YtcjjbpoaojjojaaGreatDoor

namespace Go.Proofs.YtcjjbpoaojjojaaGreatDoor
open Go Go.RowKit Go.Lib Go.Sort

instance : Inhabited FileB := ⟨⟨⟨#[]⟩, false, ⟨#[]⟩⟩⟩
abbrev SWF (w0 : World) (blk off : Nat) (d : Array FileB) (W : World) : Prop := SWK encFile 3 w0 blk off d W
abbrev RowF (w0 : World) (blk off : Nat) (d0 : Array FileB) : Prop := RowK encFile 3 w0 blk off d0
theorem SWK.files {w0 W : World} {blk off : Nat} {d0 dk : Array FileB} (S : SWF w0 blk off dk W) (R : RowF w0 blk off d0) (hs : dk.size = d0.size) (i : Nat) (hi : i < dk.size) :
    (W.cell? ⟨blk, off + i * 3, none⟩ = some (.string dk[i]!.path) ∧ W.cell? ⟨blk, off + i * 3 + 1, none⟩ = some (.bool dk[i]!.run) ∧ W.cell? ⟨blk, off + i * 3 + 2, none⟩ = some (.string dk[i]!.text)) ∧
    W.frozen? ⟨blk, off + i * 3, none⟩ = false ∧ W.frozen? ⟨blk, off + i * 3 + 1, none⟩ = false ∧ W.frozen? ⟨blk, off + i * 3 + 2, none⟩ = false := by
  have hH := S.holds R.hblk R.hH hs
  have hc := HoldsK.cells hH R.hk hi
  have hz : ∀ j, j < 3 → i * 3 + j < (flatK encFile 3 dk).size := fun j hj => by rw [size_flatK]; omega
  refine ⟨⟨?_, ?_, ?_⟩, ?_, ?_, ?_⟩
  · have := hc 0 (.string dk[i]!.path) rfl; exact this
  · have := hc 1 (.bool dk[i]!.run) rfl; exact this
  · have := hc 2 (.string dk[i]!.text) rfl; exact this
  · have := (hH (i * 3) (hz 0 (by omega))).2; exact this
  · have := (hH (i * 3 + 1) (hz 1 (by omega))).2; exact this
  · have := (hH (i * 3 + 2) (hz 2 (by omega))).2; exact this
def PermAll (a b : Nat) (d d' : Array FileB) : Prop := ∀ lo hi, lo ≤ a → b ≤ hi → hi ≤ d.size → PermIn lo hi d d'
theorem PermAll.refl (a b : Nat) (d : Array FileB) : PermAll a b d d := fun lo hi _ _ _ => permIn_refl d lo hi
theorem PermAll.trans {a b : Nat} {d d' d'' : Array FileB} (h : PermAll a b d d') (k : PermAll a b d' d'') (hs : d'.size = d.size) : PermAll a b d d'' := fun lo hi h1 h2 h3 => permIn_trans d d' d'' lo hi (h lo hi h1 h2 h3) (k lo hi h1 h2 (by rw [hs]; exact h3))
end Go.Proofs.YtcjjbpoaojjojaaGreatDoor

namespace Go.Proofs.YtcjjbpoaojjojaaGreatDoor
open Go Go.RowKit Go.Lib Go.Sort

end Go.Proofs.YtcjjbpoaojjojaaGreatDoor

namespace Go.Proofs.YtcjjbpoaojjojaaGreatDoor
open Go Go.RowKit Go.Lib Go.Sort

end Go.Proofs.YtcjjbpoaojjojaaGreatDoor

namespace Go.Proofs.YtcjjbpoaojjojaaGreatDoor
open Go Go.RowKit Go.Lib Go.Sort

end Go.Proofs.YtcjjbpoaojjojaaGreatDoor

namespace Go.Proofs.YtcjjbpoaojjojaaGreatDoor
open Go Go.Sort
variable {α : Type} [Inhabited α] {lt : α → α → Bool}

theorem permIn_keeps {a b x y : Nat} {d d' : Array α} (P : PermIn a b d d') (hx : y ≤ a ∨ b ≤ x) (h : SortedIn lt x y d) : SortedIn lt x y d' := by
  intro i j hi hij hj
  rw [P.2.1 i (by omega), P.2.1 j (by omega)]
  exact h i j hi hij hj

end Go.Proofs.YtcjjbpoaojjojaaGreatDoor

namespace Go.Proofs.YtcjjbpoaojjojaaGreatDoor
open Go Go.Sort
variable {α : Type} [Inhabited α] {lt : α → α → Bool}

/-- Each block of bs, from lo on and ahead of hi, is sorted (the last one is shorter). -/
def BlkIn (lt : α → α → Bool) (bs n lo hi : Nat) (d : Array α) : Prop := ∀ x, bs ∣ x → lo ≤ x → x < hi → SortedIn lt x (min (x + bs) n) d
theorem BlkIn.none (lt : α → α → Bool) (bs n lo : Nat) (d : Array α) : BlkIn lt bs n lo lo d := fun x _ h1 h2 => absurd h2 (by omega)
theorem dvd_lt {bs x a : Nat} (h1 : bs ∣ x) (h2 : bs ∣ a) (h : x < a) : x + bs ≤ a := by
  obtain ⟨p, rfl⟩ := h1
  obtain ⟨q, rfl⟩ := h2
  have : p < q := Nat.lt_of_mul_lt_mul_left h
  calc bs * p + bs = bs * (p + 1) := by rw [Nat.mul_add, Nat.mul_one]
    _ ≤ bs * q := Nat.mul_le_mul_left _ this
/-- A block more, ahead. -/
theorem BlkIn.next {bs n a b : Nat} {d d' : Array α} (h : BlkIn lt bs n 0 a d) (ha : bs ∣ a) (P : PermIn a b d d') (hs : SortedIn lt a b d') (hb : min (a + bs) n ≤ b) (hpos : 0 < bs) : BlkIn lt bs n 0 (a + bs) d' := by
  intro x hx h1 h2
  by_cases hlt : x < a
  · have := dvd_lt hx ha hlt
    exact permIn_keeps P (.inl (by omega)) (h x hx h1 hlt)
  · have : x = a := by
      obtain ⟨p, rfl⟩ := hx
      obtain ⟨q, rfl⟩ := ha
      rcases Nat.lt_or_ge q p with hq | hq
      · exfalso
        have := Nat.mul_le_mul_left bs (show q + 1 ≤ p from hq)
        rw [Nat.mul_add, Nat.mul_one] at this
        omega
      · have : p = q := by
          refine Nat.le_antisymm hq ?_
          rcases Nat.lt_or_ge p q with h3 | h3
          · exact absurd (Nat.mul_lt_mul_of_pos_left h3 hpos) hlt
          · exact h3
        rw [this]
    subst this
    exact sorted_part hs (Nat.le_refl _) hb
/-- What lies behind stays. -/
theorem BlkIn.rest {bs n a b : Nat} {d d' : Array α} (h : BlkIn lt bs n a n d) (hab : a ≤ b) (P : PermIn a b d d') : BlkIn lt bs n b n d' :=
  fun x hx h1 h2 => permIn_keeps P (.inr h1) (h x hx (by omega) h2)
end Go.Proofs.YtcjjbpoaojjojaaGreatDoor
