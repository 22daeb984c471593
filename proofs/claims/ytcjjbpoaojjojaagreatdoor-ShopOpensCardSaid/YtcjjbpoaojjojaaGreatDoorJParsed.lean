/- Plain: what a pressed text says: its runs, and where it is wrong. No program in sight. What is opened of a pressed text, in plain Lean. -/
import Derived.Test.YtcjjbpoaojjojaaGreatDoorJPlainly
import Derived.Test.YtcjjbpoaojjojaaGreatDoorJErrors
namespace Go.Proofs.YtcjjbpoaojjojaaGreatDoor
open Go

def parse : Nat → List UInt8 → Nat → List (Nat × UInt8) × Option Nat
  | 0, _, _ => ([], none)
  | f + 1, l, pos =>
    if l = [] then ([], none)
    else if (numGo l 0 0).2 = 0 then ([], some pos)
    else match l.drop (numGo l 0 0).2 with
      | [] => ([], some (pos + (numGo l 0 0).2))
      | c :: r => if c ≠ 58 then ([], some (pos + (numGo l 0 0).2)) else match r with
        | [] => ([], some (pos + (numGo l 0 0).2 + 1))
        | d :: r2 => (((numGo l 0 0).1, d) :: (parse f r2 (pos + (numGo l 0 0).2 + 2)).1, (parse f r2 (pos + (numGo l 0 0).2 + 2)).2)

/-- The runs of a pressed text, and the place of its error, if there is one. -/
def runsL (l : List UInt8) : List (Nat × UInt8) × Option Nat := parse (l.length + 1) l 0

/-- The relation at place i, acc told so far. -/
structure PP (s : ByteArray) (i : Nat) (acc : List (Nat × UInt8)) : Prop where
  ex : ∃ f, s.size - i < f ∧ acc ++ (parse f ((bl s).drop i) i).1 = (runsL (bl s)).1 ∧ (parse f ((bl s).drop i) i).2 = (runsL (bl s)).2

theorem PP.start (s : ByteArray) : PP s 0 [] := ⟨⟨(bl s).length + 1, by rw [bl_length]; omega, rfl, rfl⟩⟩
theorem PP.done {s : ByteArray} {i : Nat} {acc : List (Nat × UInt8)} (h : PP s i acc) (hi : ¬ i < s.size) : runsL (bl s) = (acc, none) := by
  obtain ⟨f, hf, h1, h2⟩ := h.ex
  rw [drop_nil s i (by omega)] at h1 h2
  match f, hf with
  | f + 1, _ =>
    simp [parse] at h1 h2
    exact Prod.ext h1.symm h2.symm
theorem parse_run {s : ByteArray} {i f k : Nat} (hi : i < s.size) (hk : (numGo ((bl s).drop i) 0 0).2 = k) (h0 : k ≠ 0) (he : i + k + 1 < s.size) (hc : s[i + k] = 58) :
    parse (f + 1) ((bl s).drop i) i = (((numGo ((bl s).drop i) 0 0).1, s[i + k + 1]) :: (parse f ((bl s).drop (i + k + 2)) (i + k + 2)).1, (parse f ((bl s).drop (i + k + 2)) (i + k + 2)).2) := by
  have hne : (bl s).drop i ≠ [] := by rw [drop_cons s i hi]; simp
  simp only [parse]
  rw [if_neg hne, hk, if_neg h0, List.drop_drop, drop_cons s _ (show i + k < s.size by omega)]
  simp only
  rw [if_neg (by simp [hc]), drop_cons s _ he]

theorem PP.fail {s : ByteArray} {i : Nat} {acc : List (Nat × UInt8)} {p : Nat} (h : PP s i acc) (hp : ∀ f, parse (f + 1) ((bl s).drop i) i = ([], some p)) : runsL (bl s) = (acc, some p) := by
  obtain ⟨f, hf, h1, h2⟩ := h.ex
  match f, hf with
  | f + 1, _ =>
    rw [hp f] at h1 h2
    exact Prod.ext (by simpa using h1.symm) h2.symm
theorem PP.step {s : ByteArray} {i k : Nat} {acc : List (Nat × UInt8)} (h : PP s i acc) (hi : i < s.size) (hk : (numGo ((bl s).drop i) 0 0).2 = k) (h0 : k ≠ 0) (he : i + k + 1 < s.size) (hc : s[i + k] = 58) :
    PP s (i + k + 2) (acc ++ [((numGo ((bl s).drop i) 0 0).1, s[i + k + 1])]) := by
  obtain ⟨f, hf, h1, h2⟩ := h.ex
  match f, hf with
  | f + 1, hf =>
    rw [parse_run hi hk h0 he hc] at h1 h2
    exact ⟨⟨f, by omega, by simpa using h1, h2⟩⟩
theorem PP.rest {s : ByteArray} {i : Nat} {acc : List (Nat × UInt8)} {r : Nat × UInt8} (h : PP s i (acc ++ [r])) : ∃ rest, acc ++ r :: rest = (runsL (bl s)).1 := by
  obtain ⟨f, hf, h1, h2⟩ := h.ex
  exact ⟨_, by simpa using h1⟩

end Go.Proofs.YtcjjbpoaojjojaaGreatDoor

namespace Go.Proofs.YtcjjbpoaojjojaaGreatDoor
open Go

end Go.Proofs.YtcjjbpoaojjojaaGreatDoor
