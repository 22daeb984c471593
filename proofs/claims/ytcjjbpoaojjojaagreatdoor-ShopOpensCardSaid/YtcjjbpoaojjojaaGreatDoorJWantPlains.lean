/- What is wanted, in plain Lean. Locks, in plain Lean. What is wanted is read as it was written; so is a lock: in plain Lean. -/
import Derived.Test.YtcjjbpoaojjojaaGreatDoorJTreePlains
import Derived.Test.YtcjjbpoaojjojaaGreatDoorJHeldUp
import Derived.Test.YtcjjbpoaojjojaaGreatDoorJParsed
import Derived.Test.YtcjjbpoaojjojaaGreatDoorJSummed
import Derived.Test.YtcjjbpoaojjojaaGreatDoorJPackedUpEtc
namespace Go.Proofs.YtcjjbpoaojjojaaGreatDoor
open Go

structure WantB where
  name : ByteArray
  url : ByteArray
  kind : ByteArray
  strip : Int
  sum : Int
instance : DecidableEq WantB := fun a b => decidable_of_iff (a.name = b.name ∧ a.url = b.url ∧ a.kind = b.kind ∧ a.strip = b.strip ∧ a.sum = b.sum) (by cases a; cases b; simp)
def kPlain : List UInt8 := [112, 108, 97, 105, 110]
def kPack : List UInt8 := [112, 97, 99, 107]
def kPress : List UInt8 := [112, 114, 101, 115, 115]
def wkinds : List (List UInt8) := [kPlain, kPack, kPress]
/-- The number of what is wrong with what is wanted. -/
def wantE (w : WantB) : Nat :=
  if partB (bl w.name) = false then 5
  else if linkE (bl w.url) ≠ 0 then linkE (bl w.url)
  else if wkinds.contains (bl w.kind) = false then 4
  else if w.strip < 0 ∨ 6 < w.strip then 2
  else if bl w.kind = kPlain ∧ w.strip ≠ 0 then 3
  else if rightB w.sum = false then 2
  else 0
theorem wantE_le (w : WantB) : wantE w ≤ 13 := by
  have h : ∀ a b c d : Bool, (if a = true then 4 else if b = true then 2 else if c = true then 3 else if d = true then 2 else 0) ≤ 13 := by decide
  unfold wantE
  split
  · decide
  · split
    · exact linkE_le _
    · split
      · decide
      · split
        · decide
        · split
          · decide
          · split <;> decide
def wantTx (w : WantB) : List UInt8 := if wantE w ≠ 0 then [] else bl w.name ++ 32 :: (bl w.url ++ 32 :: (bl w.kind ++ 32 :: (Lib.decDigits w.strip.toNat ++ 32 :: 115 :: Lib.decDigits w.sum.toNat)))
def zeroW : WantB := ⟨⟨#[]⟩, ⟨#[]⟩, ⟨#[]⟩, 0, 0⟩
def mkW (a b c : List UInt8) (n m : Nat) : WantB := ⟨⟨a.toArray⟩, ⟨b.toArray⟩, ⟨c.toArray⟩, n, m⟩
def fiveW : List (List UInt8) → Option WantB
  | [a, b, c, d, e] => match numOf d 1, readS e with
    | some n, some m => some (mkW a b c n m)
    | _, _ => none
  | _ => none
def readW (s : List UInt8) : Nat × WantB := match fiveW (cutL 32 s) with
  | none => (1, zeroW)
  | some x => if wantE x ≠ 0 then (wantE x, zeroW) else (0, x)
end Go.Proofs.YtcjjbpoaojjojaaGreatDoor

namespace Go.Proofs.YtcjjbpoaojjojaaGreatDoor
open Go

/-- What is wrong with one, given the one ahead. -/
def lockE (prev : Option WantB) (w : WantB) : Nat :=
  if wantE w ≠ 0 then wantE w else match prev with
    | none => 0
    | some p => if leqB (bl w.name) (bl p.name) = true then 9 else 0
def lockGo : Option WantB → Nat → List WantB → Option (Nat × Nat)
  | _, _, [] => none
  | prev, i, w :: l => if lockE prev w ≠ 0 then some (i, lockE prev w) else lockGo (some w) (i + 1) l
def lockEr (l : List WantB) : Er := if 20 < l.length then ⟨8, none⟩ else match lockGo none 0 l with
  | some p => ⟨p.2, some (p.1 : Int)⟩
  | none => ⟨0, none⟩
def findW (n : ByteArray) : List WantB → Option Nat
  | [] => none
  | w :: l => if w.name = n then some 0 else (findW n l).map (· + 1)
def wLt (a b : WantB) : Prop := bl a.name < bl b.name
instance (a b : WantB) : Decidable (wLt a b) := inferInstanceAs (Decidable (bl a.name < bl b.name))
def placeW (l : List WantB) (w : WantB) : Nat := (l.takeWhile fun x => decide (wLt x w)).length
def setLk (l : List WantB) (w : WantB) : Er × List WantB :=
  if (lockEr l).code ≠ 0 then (lockEr l, [])
  else if wantE w ≠ 0 then (⟨wantE w, none⟩, [])
  else if (findW w.name l).isSome = true then (⟨0, none⟩, l.take (placeW l w) ++ w :: l.drop (placeW l w + 1))
  else if 20 ≤ l.length then (⟨8, none⟩, [])
  else (⟨0, none⟩, l.take (placeW l w) ++ w :: l.drop (placeW l w))
def dropLk (l : List WantB) (n : ByteArray) : Er × List WantB :=
  if (lockEr l).code ≠ 0 then (lockEr l, [])
  else match findW n l with
    | none => (⟨6, none⟩, [])
    | some k => (⟨0, none⟩, l.eraseIdx k)
def splitGo (all : List FileB) : Nat → List WantB → Er × List (List FileB)
  | _, [] => (⟨0, none⟩, [])
  | i, w :: l =>
    if (treeEr (underL all w.name)).code ≠ 0 then (⟨(treeEr (underL all w.name)).code, some (i : Int)⟩, [])
    else if treeSum (underL all w.name) ≠ w.sum then (⟨12, some (i : Int)⟩, [])
    else ((splitGo all (i + 1) l).1, underL all w.name :: (splitGo all (i + 1) l).2)
def splitLk (l : List WantB) (s : List UInt8) : Er × List (List FileB) :=
  if (lockEr l).code ≠ 0 then (lockEr l, [])
  else if (readEr s).code ≠ 0 then (readEr s, [])
  else if (splitGo (readT s) 0 l).1.code ≠ 0 then ((splitGo (readT s) 0 l).1, [])
  else (⟨0, none⟩, (splitGo (readT s) 0 l).2)
/-- A right lock. -/
structure LockOk (l : List WantB) : Prop where
  few : l.length ≤ 20
  each : ∀ w ∈ l, wantE w = 0
  strict : l.Pairwise wLt
theorem wLt.irrefl (a : WantB) : ¬ wLt a a := List.lt_irrefl _
theorem wLt.trans {a b c : WantB} (h : wLt a b) (k : wLt b c) : wLt a c := List.lt_trans h k
theorem wLt.asymm {a b : WantB} (h : wLt a b) : ¬ wLt b a := fun k => wLt.irrefl a (h.trans k)
theorem wLt.ne {a b : WantB} (h : wLt a b) : a.name ≠ b.name := fun e => by unfold wLt at h; rw [e] at h; exact List.lt_irrefl _ h
theorem lockE_zero {p w : WantB} : lockE (some p) w = 0 ↔ wantE w = 0 ∧ wLt p w := by
  unfold lockE
  by_cases h : wantE w ≠ 0
  · rw [if_pos h]; exact ⟨fun e => absurd e h, fun e => absurd e.1 h⟩
  · rw [if_neg h]
    simp only
    cases hl : leqB (bl w.name) (bl p.name) with
    | true =>
      rw [if_pos rfl]
      refine ⟨fun e => (by cases e), fun e => ?_⟩
      have := (leqB_false (bl w.name) (bl p.name)).2 e.2
      rw [hl] at this; cases this
    | false =>
      rw [if_neg (by simp)]
      exact ⟨fun _ => ⟨by simpa using h, (leqB_false _ _).1 hl⟩, fun _ => rfl⟩
theorem lockGo_some : ∀ (l : List WantB) (p : WantB) (i : Nat), lockGo (some p) i l = none ↔ (∀ w ∈ l, wantE w = 0) ∧ (p :: l).Pairwise wLt
  | [], p, i => by simp [lockGo]
  | w :: l, p, i => by
    unfold lockGo
    by_cases h : lockE (some p) w ≠ 0
    · rw [if_pos h]
      refine ⟨fun e => (by cases e), fun e => ?_⟩
      exact absurd (lockE_zero.2 ⟨e.1 w (List.mem_cons_self ..), (List.pairwise_cons.1 e.2).1 w (List.mem_cons_self ..)⟩) h
    · rw [if_neg h, lockGo_some l w (i + 1)]
      obtain ⟨h1, h2⟩ := lockE_zero.1 (by simpa using h)
      constructor
      · rintro ⟨a, b⟩
        refine ⟨fun x hx => ?_, List.pairwise_cons.2 ⟨fun x hx => ?_, b⟩⟩
        · rcases List.mem_cons.1 hx with rfl | hx
          · exact h1
          · exact a x hx
        · rcases List.mem_cons.1 hx with rfl | hx
          · exact h2
          · exact h2.trans ((List.pairwise_cons.1 b).1 x hx)
      · rintro ⟨a, b⟩
        exact ⟨fun x hx => a x (List.mem_cons_of_mem _ hx), (List.pairwise_cons.1 b).2⟩
theorem lockGo_none : ∀ (l : List WantB), lockGo none 0 l = none ↔ (∀ w ∈ l, wantE w = 0) ∧ l.Pairwise wLt
  | [] => by simp [lockGo]
  | w :: l => by
    unfold lockGo
    have he : lockE none w = wantE w := by
      unfold lockE
      by_cases h : wantE w ≠ 0
      · rw [if_pos h]
      · rw [if_neg h]; simp only [ne_eq, Decidable.not_not] at h; exact h.symm
    rw [he]
    by_cases h : wantE w ≠ 0
    · rw [if_pos h]
      exact ⟨fun e => (by cases e), fun e => absurd (e.1 w (List.mem_cons_self ..)) h⟩
    · rw [if_neg h, lockGo_some l w 1]
      constructor
      · rintro ⟨a, b⟩
        refine ⟨fun x hx => ?_, b⟩
        rcases List.mem_cons.1 hx with rfl | hx
        · simpa using h
        · exact a x hx
      · rintro ⟨a, b⟩
        exact ⟨fun x hx => a x (List.mem_cons_of_mem _ hx), b⟩
theorem lockE_nz : ∀ {l : List WantB} {prev : Option WantB} {i : Nat} {p : Nat × Nat}, lockGo prev i l = some p → p.2 ≠ 0
  | [], _, _, _, h => by cases h
  | w :: l, prev, i, p, h => by
    unfold lockGo at h
    split at h
    · rename_i hh; injection h with h; subst h; exact hh
    · exact lockE_nz h
theorem lockOk_iff (l : List WantB) : (lockEr l).code = 0 ↔ LockOk l := by
  unfold lockEr
  constructor
  · intro h
    split at h
    · cases h
    · rename_i h20
      cases hg : lockGo none 0 l with
      | none => obtain ⟨a, b⟩ := (lockGo_none l).1 hg; exact ⟨by omega, a, b⟩
      | some p =>
        rw [hg] at h
        exact absurd h (lockE_nz hg)
  · rintro ⟨a, b, c⟩
    rw [if_neg (by omega), (lockGo_none l).2 ⟨b, c⟩]
theorem LockOk.er {l : List WantB} (h : LockOk l) : lockEr l = ⟨0, none⟩ := by
  unfold lockEr
  rw [if_neg (by have := h.few; omega), (lockGo_none l).2 ⟨h.each, h.strict⟩]
theorem LockOk.sub {l m : List WantB} (h : LockOk m) (hs : l.Sublist m) : LockOk l := ⟨Nat.le_trans hs.length_le h.few, fun w hw => h.each w (hs.subset hw), h.strict.sublist hs⟩
end Go.Proofs.YtcjjbpoaojjojaaGreatDoor

namespace Go.Proofs.YtcjjbpoaojjojaaGreatDoor
open Go

/-- What is right in what is wanted. -/
structure WantOk (w : WantB) : Prop where
  name : partB (bl w.name) = true
  url : linkE (bl w.url) = 0
  kind : bl w.kind ∈ wkinds
  strip : 0 ≤ w.strip ∧ w.strip ≤ 6
  plain : bl w.kind = kPlain → w.strip = 0
  sum : 0 ≤ w.sum ∧ w.sum < 1000000007
theorem wantE_zero {w : WantB} (h : wantE w = 0) : WantOk w := by
  unfold wantE at h
  split at h
  · cases h
  rename_i h1
  split at h
  · rename_i h2; exact absurd h h2
  rename_i h2
  split at h
  · cases h
  rename_i h3
  split at h
  · cases h
  rename_i h4
  split at h
  · cases h
  rename_i h5
  split at h
  · cases h
  rename_i h6
  refine ⟨by simpa using h1, by simpa using h2, by simpa using h3, by omega, fun e => ?_, ?_⟩
  · exact Classical.byContradiction fun hn => h5 ⟨e, hn⟩
  · unfold rightB at h6
    simp only [Bool.not_eq_false, Bool.and_eq_true, decide_eq_true_eq] at h6
    exact h6
end Go.Proofs.YtcjjbpoaojjojaaGreatDoor
