/- Plain: what a pressed text says: its runs, and where it is wrong. No program in sight. What is opened of a pressed text, in plain Lean. -/
import Derived.Test.YtomceddfbfpjjaaGreatDoorKPlainly
import Derived.Test.YtomceddfbfpjjaaGreatDoorKErrors
namespace Go.Proofs.YtomceddfbfpjjaaGreatDoor
open Go

def parse : Nat → List UInt8 → Nat → List (Nat × UInt8) × Option Nat
  | 0, _, _ => ([], none)
  | f + 1, l, pos =>
    if l = [] then ([], none)
    else if (numGo l 0 0).2 = 0 then ([], some pos)
    else match l.drop (numGo l 0 0).2 with
      | [] => ([], some (pos + (numGo l 0 0).2))
      | c :: r => if c ≠ 58 then ([], some (pos + (numGo l 0 0).2)) else match r with
        | [] => ([], some (pos + (numGo l 0 0).2 + 1))
        | d :: r2 => (((numGo l 0 0).1, d) :: (parse f r2 (pos + (numGo l 0 0).2 + 2)).1, (parse f r2 (pos + (numGo l 0 0).2 + 2)).2)

/-- The runs of a pressed text, and the place of its error, if there is one. -/
def runsL (l : List UInt8) : List (Nat × UInt8) × Option Nat := parse (l.length + 1) l 0

theorem numGo_le : ∀ (l : List UInt8) (k m : Nat), k ≤ (numGo l k m).2 ∧ (numGo l k m).2 ≤ k + l.length
  | [], k, m => ⟨Nat.le_refl _, Nat.le_refl _⟩
  | c :: cs, k, m => by
    unfold numGo
    split
    · have := numGo_le cs (k + 1) (10 * m + (c.toNat - 48))
      simp only [List.length_cons]; omega
    · simp
theorem numGo_nine : ∀ (l : List UInt8) (k m : Nat), k ≤ 9 → m < 10 ^ k → (numGo l k m).2 ≤ 9 ∧ (numGo l k m).1 < 10 ^ (numGo l k m).2
  | [], k, m, hk, hm => ⟨hk, hm⟩
  | c :: cs, k, m, hk, hm => by
    unfold numGo
    split
    · rename_i h
      exact numGo_nine cs (k + 1) _ (by omega) (by rw [Nat.pow_succ]; omega)
    · exact ⟨hk, hm⟩
theorem numGo_lt (l : List UInt8) : (numGo l 0 0).1 < 1000000000 := by
  have h := numGo_nine l 0 0 (by omega) (by decide)
  exact Nat.lt_of_lt_of_le h.2 (Nat.pow_le_pow_right (by decide) h.1)

/-- The relation at place i, acc told so far. -/
structure PP (s : ByteArray) (i : Nat) (acc : List (Nat × UInt8)) : Prop where
  ex : ∃ f, s.size - i < f ∧ acc ++ (parse f ((bl s).drop i) i).1 = (runsL (bl s)).1 ∧ (parse f ((bl s).drop i) i).2 = (runsL (bl s)).2

theorem PP.start (s : ByteArray) : PP s 0 [] := ⟨⟨(bl s).length + 1, by rw [bl_length]; omega, rfl, rfl⟩⟩
theorem PP.done {s : ByteArray} {i : Nat} {acc : List (Nat × UInt8)} (h : PP s i acc) (hi : ¬ i < s.size) : runsL (bl s) = (acc, none) := by
  obtain ⟨f, hf, h1, h2⟩ := h.ex
  rw [drop_nil s i (by omega)] at h1 h2
  match f, hf with
  | f + 1, _ =>
    simp [parse] at h1 h2
    exact Prod.ext h1.symm h2.symm
theorem parse_none {s : ByteArray} {i f : Nat} (hi : i < s.size) (h0 : (numGo ((bl s).drop i) 0 0).2 = 0) : parse (f + 1) ((bl s).drop i) i = ([], some i) := by
  have hne : (bl s).drop i ≠ [] := by rw [drop_cons s i hi]; simp
  simp only [parse]
  rw [if_neg hne, if_pos h0]
theorem parse_end {s : ByteArray} {i f k : Nat} (hi : i < s.size) (hk : (numGo ((bl s).drop i) 0 0).2 = k) (h0 : k ≠ 0) (he : i + k = s.size) : parse (f + 1) ((bl s).drop i) i = ([], some (i + k)) := by
  have hne : (bl s).drop i ≠ [] := by rw [drop_cons s i hi]; simp
  simp only [parse]
  rw [if_neg hne, hk, if_neg h0, List.drop_drop, drop_nil s _ (by omega)]
theorem parse_sign {s : ByteArray} {i f k : Nat} (hi : i < s.size) (hk : (numGo ((bl s).drop i) 0 0).2 = k) (h0 : k ≠ 0) (he : i + k < s.size) (hc : s[i + k] ≠ 58) : parse (f + 1) ((bl s).drop i) i = ([], some (i + k)) := by
  have hne : (bl s).drop i ≠ [] := by rw [drop_cons s i hi]; simp
  simp only [parse]
  rw [if_neg hne, hk, if_neg h0, List.drop_drop, drop_cons s _ he]
  simp only
  rw [if_pos hc]
theorem parse_last {s : ByteArray} {i f k : Nat} (hi : i < s.size) (hk : (numGo ((bl s).drop i) 0 0).2 = k) (h0 : k ≠ 0) (he : i + k < s.size) (hc : s[i + k] = 58) (hl : i + k + 1 = s.size) : parse (f + 1) ((bl s).drop i) i = ([], some (i + k + 1)) := by
  have hne : (bl s).drop i ≠ [] := by rw [drop_cons s i hi]; simp
  simp only [parse]
  rw [if_neg hne, hk, if_neg h0, List.drop_drop, drop_cons s _ he]
  simp only
  rw [if_neg (by simp [hc]), drop_nil s _ (by omega)]
theorem parse_run {s : ByteArray} {i f k : Nat} (hi : i < s.size) (hk : (numGo ((bl s).drop i) 0 0).2 = k) (h0 : k ≠ 0) (he : i + k + 1 < s.size) (hc : s[i + k] = 58) :
    parse (f + 1) ((bl s).drop i) i = (((numGo ((bl s).drop i) 0 0).1, s[i + k + 1]) :: (parse f ((bl s).drop (i + k + 2)) (i + k + 2)).1, (parse f ((bl s).drop (i + k + 2)) (i + k + 2)).2) := by
  have hne : (bl s).drop i ≠ [] := by rw [drop_cons s i hi]; simp
  simp only [parse]
  rw [if_neg hne, hk, if_neg h0, List.drop_drop, drop_cons s _ (show i + k < s.size by omega)]
  simp only
  rw [if_neg (by simp [hc]), drop_cons s _ he]

theorem PP.fail {s : ByteArray} {i : Nat} {acc : List (Nat × UInt8)} {p : Nat} (h : PP s i acc) (hp : ∀ f, parse (f + 1) ((bl s).drop i) i = ([], some p)) : runsL (bl s) = (acc, some p) := by
  obtain ⟨f, hf, h1, h2⟩ := h.ex
  match f, hf with
  | f + 1, _ =>
    rw [hp f] at h1 h2
    exact Prod.ext (by simpa using h1.symm) h2.symm
theorem PP.step {s : ByteArray} {i k : Nat} {acc : List (Nat × UInt8)} (h : PP s i acc) (hi : i < s.size) (hk : (numGo ((bl s).drop i) 0 0).2 = k) (h0 : k ≠ 0) (he : i + k + 1 < s.size) (hc : s[i + k] = 58) :
    PP s (i + k + 2) (acc ++ [((numGo ((bl s).drop i) 0 0).1, s[i + k + 1])]) := by
  obtain ⟨f, hf, h1, h2⟩ := h.ex
  match f, hf with
  | f + 1, hf =>
    rw [parse_run hi hk h0 he hc] at h1 h2
    exact ⟨⟨f, by omega, by simpa using h1, h2⟩⟩
theorem PP.rest {s : ByteArray} {i : Nat} {acc : List (Nat × UInt8)} {r : Nat × UInt8} (h : PP s i (acc ++ [r])) : ∃ rest, acc ++ r :: rest = (runsL (bl s)).1 := by
  obtain ⟨f, hf, h1, h2⟩ := h.ex
  exact ⟨_, by simpa using h1⟩

/-- How long what is pressed is. -/
def sumR (l : List (Nat × UInt8)) : Nat := (l.map (·.1)).sum
theorem sumR_append (a b : List (Nat × UInt8)) : sumR (a ++ b) = sumR a + sumR b := by simp [sumR]
theorem sumR_cons (r : Nat × UInt8) (b : List (Nat × UInt8)) : sumR (r :: b) = r.1 + sumR b := by simp [sumR]
theorem parse_sum : ∀ (f : Nat) (l : List UInt8) (p : Nat), sumR (parse f l p).1 ≤ l.length * 1000000000
  | 0, l, p => by simp [parse, sumR]
  | f + 1, l, p => by
    unfold parse
    split
    · simp [sumR]
    · split
      · simp [sumR]
      · rename_i hne h0
        split
        · simp [sumR]
        · rename_i c r hd
          split
          · simp [sumR]
          · split
            · simp [sumR]
            · rename_i d r2
              have ih := parse_sum f r2 (p + (numGo l 0 0).2 + 2)
              have hn := numGo_lt l
              have hlen : (l.drop (numGo l 0 0).2).length = r2.length + 2 := by rw [hd]; rfl
              rw [List.length_drop] at hlen
              rw [sumR_cons]
              have : (r2.length + 1) * 1000000000 ≤ l.length * 1000000000 := Nat.mul_le_mul_right _ (by omega)
              simp only
              omega
theorem runs_sum (l : List UInt8) : sumR (runsL l).1 ≤ l.length * 1000000000 := parse_sum _ _ _

/-- What is pressed, opened. -/
def openR (l : List (Nat × UInt8)) : List UInt8 := l.flatMap fun r => List.replicate r.1 r.2
theorem openR_length (l : List (Nat × UInt8)) : (openR l).length = sumR l := by
  induction l with
  | nil => rfl
  | cons a l ih => rw [sumR_cons, ← ih]; simp [openR]
end Go.Proofs.YtomceddfbfpjjaaGreatDoor

namespace Go.Proofs.YtomceddfbfpjjaaGreatDoor
open Go

/-- What Open tells: the text, and its error. -/
def openT (r : List (Nat × UInt8) × Option Nat) (most : Int) : List UInt8 := match r.2 with
  | none => if (sumR r.1 : Int) > most then [] else openR r.1
  | some _ => []
def openE (r : List (Nat × UInt8) × Option Nat) (most : Int) : Er := match r.2 with
  | none => if (sumR r.1 : Int) > most then Er.base 8 else Er.nil
  | some p => Er.fault p 1
theorem open_some {r : List (Nat × UInt8) × Option Nat} {p : Nat} (h : r.2 = some p) (most : Int) : openT r most = [] ∧ openE r most = Er.fault p 1 := by
  unfold openT openE; rw [h]; exact ⟨rfl, rfl⟩
theorem open_much {r : List (Nat × UInt8) × Option Nat} (h : r.2 = none) {most : Int} (hm : most < (sumR r.1 : Int)) : openT r most = [] ∧ openE r most = Er.base 8 := by
  unfold openT openE; rw [h]; simp only; rw [if_pos hm, if_pos hm]; exact ⟨rfl, rfl⟩
theorem open_fine {r : List (Nat × UInt8) × Option Nat} (h : r.2 = none) {most : Int} (hm : ¬ most < (sumR r.1 : Int)) : openT r most = openR r.1 ∧ openE r most = Er.nil := by
  unfold openT openE; rw [h]; simp only; rw [if_neg hm, if_neg hm]; exact ⟨rfl, rfl⟩

theorem openR_append (a b : List (Nat × UInt8)) : openR (a ++ b) = openR a ++ openR b := by simp [openR]
end Go.Proofs.YtomceddfbfpjjaaGreatDoor
