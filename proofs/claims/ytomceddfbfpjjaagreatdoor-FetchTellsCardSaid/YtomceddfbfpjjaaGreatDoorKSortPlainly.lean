/- The stable sort's merging, in plain Lean: what a rotation leaves, and why halves that do not cross are sorted. The stable sort's merging, in plain Lean: two halves that do not cross, each sorted by itself, are sorted together. The stable sort by blocks, in plain Lean: what each merging leaves sorted. -/
import Derived.Sort.LotA
namespace Go.Proofs.YtomceddfbfpjjaaGreatDoor
open Go Go.Sort
variable {α : Type} [Inhabited α]

/-- d' is d with [a, m) and [m, b) exchanged as blocks. -/
def RotIn (a m b : Nat) (d d' : Array α) : Prop :=
  d'.size = d.size ∧ ∀ p, d'[p]! = if a ≤ p ∧ p < a + (b - m) then d[p + (m - a)]! else if a + (b - m) ≤ p ∧ p < b then d[p - (b - m)]! else d[p]!
theorem RotIn.left {a b : Nat} (d : Array α) : RotIn a a b d d := ⟨rfl, fun p => by
  repeat' split
  all_goals first | rfl | (exfalso; omega) | (congr 1; omega)⟩
theorem RotIn.right {a b : Nat} (_ : a ≤ b) (d : Array α) : RotIn a b b d d := ⟨rfl, fun p => by
  repeat' split
  all_goals first | rfl | (exfalso; omega) | (congr 1; omega)⟩
/-- The two blocks of one length. -/
def SwapsIn (a b n : Nat) (d d' : Array α) : Prop :=
  d'.size = d.size ∧ ∀ p, d'[p]! = if a ≤ p ∧ p < a + n then d[p + (b - a)]! else if b ≤ p ∧ p < b + n then d[p - (b - a)]! else d[p]!
theorem SwapsIn.zero (a b : Nat) (d : Array α) : SwapsIn a b 0 d d := ⟨rfl, fun p => by
  repeat' split
  all_goals first | rfl | (exfalso; omega) | (congr 1; omega)⟩
theorem SwapsIn.step {a b n : Nat} {d d' : Array α} (h : SwapsIn a b n d d') (hab : a + n < b) (hb : b + n < d.size) : SwapsIn a b (n + 1) d (swp d' (a + n) (b + n)) := by
  refine ⟨by rw [swp_size]; exact h.1, fun p => ?_⟩
  rw [swp_get d' (by rw [h.1]; omega) (by rw [h.1]; omega)]
  simp only [h.2]
  repeat' split
  all_goals first | rfl | (exfalso; omega) | (congr 1; omega)
/-- A step of the rotation: the left block is the longer one. -/
theorem RotIn.long {i j m : Nat} {d d1 d2 : Array α} (hs : SwapsIn (m - i) m j d d1) (hi : j < i) (him : i ≤ m) (h : RotIn (m - (i - j)) m (m + j) d1 d2) : RotIn (m - i) m (m + j) d d2 := by
  refine ⟨h.1.trans hs.1, fun p => ?_⟩
  rw [h.2]
  simp only [hs.2]
  repeat' split
  all_goals first | rfl | (exfalso; omega) | (congr 1; omega)
/-- The right block is the longer one. -/
theorem RotIn.short {i j m : Nat} {d d1 d2 : Array α} (hs : SwapsIn (m - i) (m + j - i) i d d1) (hi : i < j) (him : i ≤ m) (h : RotIn (m - i) m (m + (j - i)) d1 d2) : RotIn (m - i) m (m + j) d d2 := by
  refine ⟨h.1.trans hs.1, fun p => ?_⟩
  rw [h.2]
  simp only [hs.2]
  repeat' split
  all_goals first | rfl | (exfalso; omega) | (congr 1; omega)
theorem RotIn.even {i m : Nat} {d d1 : Array α} (hs : SwapsIn (m - i) m i d d1) (him : i ≤ m) : RotIn (m - i) m (m + i) d d1 := by
  refine ⟨hs.1, fun p => ?_⟩
  simp only [hs.2]
  repeat' split
  all_goals first | rfl | (exfalso; omega) | (congr 1; omega)

variable {lt : α → α → Bool}
/-- Sorted on both sides, and no crossing: sorted. -/
theorem sorted_join {a m b : Nat} {d : Array α} (h1 : SortedIn lt a m d) (h2 : SortedIn lt m b d) (hx : ∀ i j, a ≤ i → i < m → m ≤ j → j < b → lt d[j]! d[i]! = false) : SortedIn lt a b d := by
  intro i j hi hij hj
  by_cases c1 : j < m
  · exact h1 i j hi hij c1
  · by_cases c2 : m ≤ i
    · exact h2 i j c2 hij hj
    · exact hx i j hi (by omega) (by omega) hj
theorem sorted_none {a b : Nat} (h : b ≤ a) (d : Array α) : SortedIn lt a b d := fun i j hi hij hj => by omega
theorem sorted_part {a b a' b' : Nat} {d : Array α} (h : SortedIn lt a b d) (ha : a ≤ a') (hb : b' ≤ b) : SortedIn lt a' b' d := fun i j hi hij hj => h i j (by omega) hij (by omega)
theorem sorted_le (hS : SWO lt) {a b : Nat} {d : Array α} (h : SortedIn lt a b d) {i j : Nat} (hi : a ≤ i) (hij : i ≤ j) (hj : j < b) : lt d[j]! d[i]! = false := by
  by_cases e : i = j
  · subst e; exact hS.irrefl _
  · exact h i j hi (by omega) hj
/-- What the middle step of the merging leaves: two halves that do not cross. -/
theorem sym_halves (hS : SWO lt) {a m b mid s e : Nat} {d d' : Array α} (h1 : SortedIn lt a m d) (h2 : SortedIn lt m b d) (hr : RotIn s m e d d')
    (q1 : a ≤ s) (q2 : s ≤ m) (q3 : m ≤ e) (q4 : e ≤ b) (q5 : s + (e - m) = mid)
    (hL : s = a ∨ e = b ∨ lt d[e]! d[s - 1]! = false) (hR : e = m ∨ s = m ∨ lt d[s]! d[e - 1]! = false) :
    SortedIn lt a s d' ∧ SortedIn lt s mid d' ∧ SortedIn lt mid e d' ∧ SortedIn lt e b d' ∧ ∀ i j, a ≤ i → i < mid → mid ≤ j → j < b → lt d'[j]! d'[i]! = false := by
  have g1 : ∀ p, p < s → d'[p]! = d[p]! := fun p hp => by rw [hr.2, if_neg (show ¬ (s ≤ p ∧ p < s + (e - m)) by omega), if_neg (show ¬ (s + (e - m) ≤ p ∧ p < e) by omega)]
  have g2 : ∀ p, s ≤ p → p < mid → d'[p]! = d[p + (m - s)]! := fun p hp hq => by rw [hr.2, if_pos (show (s ≤ p ∧ p < s + (e - m)) by omega)]
  have g3 : ∀ p, mid ≤ p → p < e → d'[p]! = d[p - (e - m)]! := fun p hp hq => by rw [hr.2, if_neg (show ¬ (s ≤ p ∧ p < s + (e - m)) by omega), if_pos (show (s + (e - m) ≤ p ∧ p < e) by omega)]
  have g4 : ∀ p, e ≤ p → d'[p]! = d[p]! := fun p hp => by rw [hr.2, if_neg (show ¬ (s ≤ p ∧ p < s + (e - m)) by omega), if_neg (show ¬ (s + (e - m) ≤ p ∧ p < e) by omega)]
  refine ⟨fun i j hi hij hj => ?_, fun i j hi hij hj => ?_, fun i j hi hij hj => ?_, fun i j hi hij hj => ?_, fun i j hi hi2 hj hj2 => ?_⟩
  · rw [g1 i (by omega), g1 j hj]; exact h1 i j hi hij (by omega)
  · rw [g2 i hi (by omega), g2 j (by omega) hj]; exact h2 _ _ (by omega) (by omega) (by omega)
  · rw [g3 i hi (by omega), g3 j (by omega) hj]; exact h1 _ _ (by omega) (by omega) (by omega)
  · rw [g4 i hi, g4 j (by omega)]; exact h2 _ _ (by omega) hij hj
  · by_cases ci : i < s
    · rw [g1 i ci]
      by_cases cj : j < e
      · rw [g3 j hj cj]
        exact sorted_le hS h1 hi (by omega) (by omega)
      · rw [g4 j (by omega)]
        rcases hL with h | h | h
        · omega
        · omega
        · have a1 := sorted_le hS h2 (i := e) (j := j) q3 (by omega) hj2
          have a2 := sorted_le hS h1 (i := i) (j := s - 1) hi (by omega) (by omega)
          exact hS.ntrans _ _ _ a1 (hS.ntrans _ _ _ h a2)
    · rw [g2 i (by omega) hi2]
      by_cases cj : j < e
      · rw [g3 j hj cj]
        rcases hR with h | h | h
        · omega
        · omega
        · have a1 := sorted_le hS h1 (i := s) (j := j - (e - m)) q1 (by omega) (by omega)
          have a2 := sorted_le hS h2 (i := i + (m - s)) (j := e - 1) (by omega) (by omega) (by omega)
          exact hS.ntrans _ _ _ a1 (hS.ntrans _ _ _ h a2)
      · rw [g4 j (by omega)]
        exact sorted_le hS h2 (by omega) (by omega) hj2
/-- One element goes up. -/
theorem up_sorted (hS : SWO lt) {a i b : Nat} {d d' : Array α} (h2 : SortedIn lt (a + 1) b d) (hr : RotIn a (a + 1) i d d') (q1 : a + 1 ≤ i) (q2 : i ≤ b)
    (hL : i = a + 1 ∨ lt d[i - 1]! d[a]! = true) (hR : i = b ∨ lt d[i]! d[a]! = false) : SortedIn lt a b d' := by
  have g1 : ∀ p, a ≤ p → p < i - 1 → d'[p]! = d[p + 1]! := fun p hp hq => by rw [hr.2, if_pos (show (a ≤ p ∧ p < a + (i - (a + 1))) by omega)]; congr 1; omega
  have g2 : d'[i - 1]! = d[a]! := by rw [hr.2, if_neg (show ¬ (a ≤ i - 1 ∧ i - 1 < a + (i - (a + 1))) by omega), if_pos (show (a + (i - (a + 1)) ≤ i - 1 ∧ i - 1 < i) by omega)]; congr 1; omega
  have g3 : ∀ p, i ≤ p → d'[p]! = d[p]! := fun p hp => by rw [hr.2, if_neg (show ¬ (a ≤ p ∧ p < a + (i - (a + 1))) by omega), if_neg (show ¬ (a + (i - (a + 1)) ≤ p ∧ p < i) by omega)]
  intro x y hx hxy hy
  by_cases cy : y < i - 1
  · rw [g1 x hx (by omega), g1 y (by omega) cy]
    exact h2 _ _ (by omega) (by omega) (by omega)
  · by_cases cy2 : y = i - 1
    · subst cy2
      rw [g2, g1 x hx (by omega)]
      rcases hL with h | h
      · omega
      · exact hS.ntrans _ _ _ (hS.asymmA h) (sorted_le hS h2 (i := x + 1) (j := i - 1) (by omega) (by omega) (by omega))
    · rw [g3 y (by omega)]
      by_cases cx : x < i - 1
      · rw [g1 x hx cx]
        exact h2 _ _ (by omega) (by omega) hy
      · by_cases cx2 : x = i - 1
        · subst cx2
          rw [g2]
          rcases hR with h | h
          · omega
          · exact hS.ntrans _ _ _ (sorted_le hS h2 (i := i) (j := y) (by omega) (by omega) hy) h
        · rw [g3 x (by omega)]
          exact h2 _ _ (by omega) hxy hy
/-- One element goes down. -/
theorem down_sorted (hS : SWO lt) {a i m : Nat} {d d' : Array α} (h1 : SortedIn lt a m d) (hr : RotIn i m (m + 1) d d') (q1 : a ≤ i) (q2 : i ≤ m)
    (hL : i = a ∨ lt d[m]! d[i - 1]! = false) (hR : i = m ∨ lt d[m]! d[i]! = true) : SortedIn lt a (m + 1) d' := by
  have g1 : ∀ p, p < i → d'[p]! = d[p]! := fun p hp => by rw [hr.2, if_neg (show ¬ (i ≤ p ∧ p < i + (m + 1 - m)) by omega), if_neg (show ¬ (i + (m + 1 - m) ≤ p ∧ p < m + 1) by omega)]
  have g2 : d'[i]! = d[m]! := by rw [hr.2, if_pos (show (i ≤ i ∧ i < i + (m + 1 - m)) by omega)]; congr 1; omega
  have g3 : ∀ p, i < p → p ≤ m → d'[p]! = d[p - 1]! := fun p hp hq => by rw [hr.2, if_neg (show ¬ (i ≤ p ∧ p < i + (m + 1 - m)) by omega), if_pos (show (i + (m + 1 - m) ≤ p ∧ p < m + 1) by omega)]; congr 1; omega
  intro x y hx hxy hy
  by_cases cx : x < i
  · rw [g1 x cx]
    by_cases cy : y < i
    · rw [g1 y cy]; exact h1 _ _ hx hxy (by omega)
    · by_cases cy2 : y = i
      · subst cy2
        rw [g2]
        rcases hL with h | h
        · omega
        · exact hS.ntrans _ _ _ h (sorted_le hS h1 (i := x) (j := y - 1) hx (by omega) (by omega))
      · rw [g3 y (by omega) (by omega)]
        exact h1 _ _ hx (by omega) (by omega)
  · by_cases cx2 : x = i
    · subst cx2
      rw [g2, g3 y (by omega) (by omega)]
      rcases hR with h | h
      · omega
      · exact hS.ntrans _ _ _ (sorted_le hS h1 (i := x) (j := y - 1) q1 (by omega) (by omega)) (hS.asymmA h)
    · rw [g3 x (by omega) (by omega), g3 y (by omega) (by omega)]
      exact h1 _ _ (by omega) (by omega) (by omega)
/-- A step of one element, upward: a rotation grows. -/
theorem RotIn.up {a i : Nat} {d d' : Array α} (h : RotIn a (a + 1) (i + 1) d d') (hi : a ≤ i) (hs : i + 1 < d.size) : RotIn a (a + 1) (i + 2) d (swp d' i (i + 1)) := by
  refine ⟨by rw [swp_size]; exact h.1, fun p => ?_⟩
  rw [swp_get d' (by rw [h.1]; omega) (by rw [h.1]; omega)]
  simp only [h.2]
  repeat' split
  all_goals first | rfl | (exfalso; omega) | (congr 1; omega)
theorem RotIn.down {i m : Nat} {d d' : Array α} (h : RotIn (i + 1) m (m + 1) d d') (hi : i < m) (hs : m < d.size) : RotIn i m (m + 1) d (swp d' (i + 1) i) := by
  refine ⟨by rw [swp_size]; exact h.1, fun p => ?_⟩
  rw [swp_get d' (by rw [h.1]; omega) (by rw [h.1]; omega)]
  simp only [h.2]
  repeat' split
  all_goals first | rfl | (exfalso; omega) | (congr 1; omega)
end Go.Proofs.YtomceddfbfpjjaaGreatDoor

namespace Go.Proofs.YtomceddfbfpjjaaGreatDoor
open Go Go.Sort
variable {α : Type} [Inhabited α] {lt : α → α → Bool}

theorem swo_asymm {β : Type} {lt : β → β → Bool} (h : SWO lt) {x y : β} (hx : lt x y = true) : lt y x = false := by
  cases hy : lt y x with
  | false => rfl
  | true => have := h.trans _ _ _ hx hy; rw [h.irrefl] at this; cases this
theorem permIn_keeps {a b x y : Nat} {d d' : Array α} (P : PermIn a b d d') (hx : y ≤ a ∨ b ≤ x) (h : SortedIn lt x y d) : SortedIn lt x y d' := by
  intro i j hi hij hj
  rw [P.2.1 i (by omega), P.2.1 j (by omega)]
  exact h i j hi hij hj

theorem sym_done {a b mid : Nat} {d1 d2 d3 : Array α} (hb : b ≤ d1.size) (_ : a ≤ mid) (h2 : mid ≤ b)
    (X : ∀ i j, a ≤ i → i < mid → mid ≤ j → j < b → lt d1[j]! d1[i]! = false)
    (P2 : PermIn a mid d1 d2) (T2 : SortedIn lt a mid d2) (P3 : PermIn mid b d2 d3) (T3 : SortedIn lt mid b d3) : SortedIn lt a b d3 := by
  have hb2 : b ≤ d2.size := by rw [P2.1]; exact hb
  refine sorted_join (permIn_keeps P3 (.inl (Nat.le_refl _)) T2) T3 ?_
  intro i j hi him hmj hj
  have q := permIn_all d1 d2 a mid (fun x => ∀ j, mid ≤ j → j < b → lt d1[j]! x = false) (by omega) P2 (fun i hi him j hmj hj => X i j hi him hmj hj) i hi him
  have q2 := permIn_all d2 d3 mid b (fun y => lt y d2[i]! = false) hb2 P3 (fun j hmj hj => by rw [P2.2.1 j (.inr hmj)]; exact q j hmj hj) j hmj hj
  rw [P3.2.1 i (.inl him)]
  exact q2
end Go.Proofs.YtomceddfbfpjjaaGreatDoor

namespace Go.Proofs.YtomceddfbfpjjaaGreatDoor
open Go Go.Sort
variable {α : Type} [Inhabited α] {lt : α → α → Bool}

/-- Each block of bs, from lo on and ahead of hi, is sorted (the last one is shorter). -/
def BlkIn (lt : α → α → Bool) (bs n lo hi : Nat) (d : Array α) : Prop := ∀ x, bs ∣ x → lo ≤ x → x < hi → SortedIn lt x (min (x + bs) n) d
theorem BlkIn.none (lt : α → α → Bool) (bs n lo : Nat) (d : Array α) : BlkIn lt bs n lo lo d := fun x _ h1 h2 => absurd h2 (by omega)
theorem dvd_lt {bs x a : Nat} (h1 : bs ∣ x) (h2 : bs ∣ a) (h : x < a) : x + bs ≤ a := by
  obtain ⟨p, rfl⟩ := h1
  obtain ⟨q, rfl⟩ := h2
  have : p < q := Nat.lt_of_mul_lt_mul_left h
  calc bs * p + bs = bs * (p + 1) := by rw [Nat.mul_add, Nat.mul_one]
    _ ≤ bs * q := Nat.mul_le_mul_left _ this
/-- A block more, ahead. -/
theorem BlkIn.next {bs n a b : Nat} {d d' : Array α} (h : BlkIn lt bs n 0 a d) (ha : bs ∣ a) (P : PermIn a b d d') (hs : SortedIn lt a b d') (hb : min (a + bs) n ≤ b) (hpos : 0 < bs) : BlkIn lt bs n 0 (a + bs) d' := by
  intro x hx h1 h2
  by_cases hlt : x < a
  · have := dvd_lt hx ha hlt
    exact permIn_keeps P (.inl (by omega)) (h x hx h1 hlt)
  · have : x = a := by
      obtain ⟨p, rfl⟩ := hx
      obtain ⟨q, rfl⟩ := ha
      rcases Nat.lt_or_ge q p with hq | hq
      · exfalso
        have := Nat.mul_le_mul_left bs (show q + 1 ≤ p from hq)
        rw [Nat.mul_add, Nat.mul_one] at this
        omega
      · have : p = q := by
          refine Nat.le_antisymm hq ?_
          rcases Nat.lt_or_ge p q with h3 | h3
          · exact absurd (Nat.mul_lt_mul_of_pos_left h3 hpos) hlt
          · exact h3
        rw [this]
    subst this
    exact sorted_part hs (Nat.le_refl _) hb
/-- What lies behind stays. -/
theorem BlkIn.rest {bs n a b : Nat} {d d' : Array α} (h : BlkIn lt bs n a n d) (hab : a ≤ b) (P : PermIn a b d d') : BlkIn lt bs n b n d' :=
  fun x hx h1 h2 => permIn_keeps P (.inr h1) (h x hx (by omega) h2)
end Go.Proofs.YtomceddfbfpjjaaGreatDoor
