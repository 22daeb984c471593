/- What is wanted, in plain Lean. Locks, in plain Lean. What is wanted is read as it was written; so is a lock: in plain Lean. -/
import Derived.Test.YtomceddfbfpjjaaGreatDoorKTreePlains
import Derived.Test.YtomceddfbfpjjaaGreatDoorKHeldUp
import Derived.Test.YtomceddfbfpjjaaGreatDoorKParsed
import Derived.Test.YtomceddfbfpjjaaGreatDoorKSummed
import Derived.Test.YtomceddfbfpjjaaGreatDoorKReadPlainly
namespace Go.Proofs.YtomceddfbfpjjaaGreatDoor
open Go

structure WantB where
  name : ByteArray
  url : ByteArray
  kind : ByteArray
  strip : Int
  sum : Int
instance : DecidableEq WantB := fun a b => decidable_of_iff (a.name = b.name ∧ a.url = b.url ∧ a.kind = b.kind ∧ a.strip = b.strip ∧ a.sum = b.sum) (by cases a; cases b; simp)
def kPlain : List UInt8 := [112, 108, 97, 105, 110]
def kPack : List UInt8 := [112, 97, 99, 107]
def kPress : List UInt8 := [112, 114, 101, 115, 115]
def wkinds : List (List UInt8) := [kPlain, kPack, kPress]
/-- The number of what is wrong with what is wanted. -/
def wantE (w : WantB) : Nat :=
  if partB (bl w.name) = false then 5
  else if linkE (bl w.url) ≠ 0 then linkE (bl w.url)
  else if wkinds.contains (bl w.kind) = false then 4
  else if w.strip < 0 ∨ 6 < w.strip then 2
  else if bl w.kind = kPlain ∧ w.strip ≠ 0 then 3
  else if rightB w.sum = false then 2
  else 0
theorem wantE_le (w : WantB) : wantE w ≤ 13 := by
  have h : ∀ a b c d : Bool, (if a = true then 4 else if b = true then 2 else if c = true then 3 else if d = true then 2 else 0) ≤ 13 := by decide
  unfold wantE
  split
  · decide
  · split
    · exact linkE_le _
    · split
      · decide
      · split
        · decide
        · split
          · decide
          · split <;> decide
def zeroW : WantB := ⟨⟨#[]⟩, ⟨#[]⟩, ⟨#[]⟩, 0, 0⟩
def mkW (a b c : List UInt8) (n m : Nat) : WantB := ⟨⟨a.toArray⟩, ⟨b.toArray⟩, ⟨c.toArray⟩, n, m⟩
def fiveW : List (List UInt8) → Option WantB
  | [a, b, c, d, e] => match numOf d 1, readS e with
    | some n, some m => some (mkW a b c n m)
    | _, _ => none
  | _ => none
def readW (s : List UInt8) : Nat × WantB := match fiveW (cutL 32 s) with
  | none => (1, zeroW)
  | some x => if wantE x ≠ 0 then (wantE x, zeroW) else (0, x)
def unpackT (s : List UInt8) (n : Int) : Nat × List FileB := if (readEr s).code ≠ 0 then ((readEr s).code, []) else ((stripTr (readT s) n).1.code, (stripTr (readT s) n).2)
def oneFile (n s : ByteArray) : List FileB := [⟨n, false, s⟩]
def openW (w : WantB) (s : ByteArray) : Nat × List FileB :=
  if wantE w ≠ 0 then (wantE w, [])
  else if 20000 < s.size then (2, [])
  else if bl w.kind = kPack then unpackT (bl s) w.strip
  else if bl w.kind = kPress then (if (openE (runsL (bl s)) 20000).code ≠ 0 then ((openE (runsL (bl s)) 20000).code, []) else unpackT (openT (runsL (bl s)) 20000) w.strip)
  else if (treeEr (oneFile w.name s)).code ≠ 0 then ((treeEr (oneFile w.name s)).code, []) else (0, oneFile w.name s)
def rightW (w : WantB) (s : ByteArray) : Nat × List FileB :=
  if (openW w s).1 ≠ 0 then ((openW w s).1, [])
  else if treeSum (openW w s).2 ≠ w.sum then (12, [])
  else (0, (openW w s).2)
theorem unpackT_ok {s : List UInt8} {n : Int} (h : (unpackT s n).1 = 0) : TreeOk (unpackT s n).2 := by
  unfold unpackT at h ⊢
  by_cases h1 : (readEr s).code ≠ 0
  · rw [if_pos h1] at h; exact absurd h h1
  · rw [if_neg h1] at h ⊢
    exact (stripTr_ok h).2
theorem openW_ok {w : WantB} {s : ByteArray} (h : (openW w s).1 = 0) : TreeOk (openW w s).2 := by
  unfold openW at h ⊢
  split at h
  · rename_i h1; exact absurd h h1
  · rename_i h1
    rw [if_neg h1]
    split at h
    · cases h
    · rename_i h2
      rw [if_neg h2]
      split at h
      · rename_i h3; rw [if_pos h3]; exact unpackT_ok h
      · rename_i h3
        rw [if_neg h3]
        split at h
        · rename_i h4
          rw [if_pos h4]
          split at h
          · rename_i h5; exact absurd h h5
          · rename_i h5; rw [if_neg h5]; exact unpackT_ok h
        · rename_i h4
          rw [if_neg h4]
          split at h
          · rename_i h5; exact absurd h h5
          · rename_i h5; rw [if_neg h5]; exact (treeOk_iff _).1 (by simpa using h5)
end Go.Proofs.YtomceddfbfpjjaaGreatDoor

namespace Go.Proofs.YtomceddfbfpjjaaGreatDoor
open Go

/-- What is wrong with one, given the one ahead. -/
def lockE (prev : Option WantB) (w : WantB) : Nat :=
  if wantE w ≠ 0 then wantE w else match prev with
    | none => 0
    | some p => if leqB (bl w.name) (bl p.name) = true then 9 else 0
def lockGo : Option WantB → Nat → List WantB → Option (Nat × Nat)
  | _, _, [] => none
  | prev, i, w :: l => if lockE prev w ≠ 0 then some (i, lockE prev w) else lockGo (some w) (i + 1) l
def lockEr (l : List WantB) : Er := if 20 < l.length then ⟨8, none⟩ else match lockGo none 0 l with
  | some p => ⟨p.2, some (p.1 : Int)⟩
  | none => ⟨0, none⟩
def wLt (a b : WantB) : Prop := bl a.name < bl b.name
instance (a b : WantB) : Decidable (wLt a b) := inferInstanceAs (Decidable (bl a.name < bl b.name))
/-- A right lock. -/
structure LockOk (l : List WantB) : Prop where
  few : l.length ≤ 20
  each : ∀ w ∈ l, wantE w = 0
  strict : l.Pairwise wLt
theorem wLt.irrefl (a : WantB) : ¬ wLt a a := List.lt_irrefl _
theorem wLt.trans {a b c : WantB} (h : wLt a b) (k : wLt b c) : wLt a c := List.lt_trans h k
theorem wLt.asymm {a b : WantB} (h : wLt a b) : ¬ wLt b a := fun k => wLt.irrefl a (h.trans k)
theorem lockE_zero {p w : WantB} : lockE (some p) w = 0 ↔ wantE w = 0 ∧ wLt p w := by
  unfold lockE
  by_cases h : wantE w ≠ 0
  · rw [if_pos h]; exact ⟨fun e => absurd e h, fun e => absurd e.1 h⟩
  · rw [if_neg h]
    simp only
    cases hl : leqB (bl w.name) (bl p.name) with
    | true =>
      rw [if_pos rfl]
      refine ⟨fun e => (by cases e), fun e => ?_⟩
      have := (leqB_false (bl w.name) (bl p.name)).2 e.2
      rw [hl] at this; cases this
    | false =>
      rw [if_neg (by simp)]
      exact ⟨fun _ => ⟨by simpa using h, (leqB_false _ _).1 hl⟩, fun _ => rfl⟩
theorem lockGo_some : ∀ (l : List WantB) (p : WantB) (i : Nat), lockGo (some p) i l = none ↔ (∀ w ∈ l, wantE w = 0) ∧ (p :: l).Pairwise wLt
  | [], p, i => by simp [lockGo]
  | w :: l, p, i => by
    unfold lockGo
    by_cases h : lockE (some p) w ≠ 0
    · rw [if_pos h]
      refine ⟨fun e => (by cases e), fun e => ?_⟩
      exact absurd (lockE_zero.2 ⟨e.1 w (List.mem_cons_self ..), (List.pairwise_cons.1 e.2).1 w (List.mem_cons_self ..)⟩) h
    · rw [if_neg h, lockGo_some l w (i + 1)]
      obtain ⟨h1, h2⟩ := lockE_zero.1 (by simpa using h)
      constructor
      · rintro ⟨a, b⟩
        refine ⟨fun x hx => ?_, List.pairwise_cons.2 ⟨fun x hx => ?_, b⟩⟩
        · rcases List.mem_cons.1 hx with rfl | hx
          · exact h1
          · exact a x hx
        · rcases List.mem_cons.1 hx with rfl | hx
          · exact h2
          · exact h2.trans ((List.pairwise_cons.1 b).1 x hx)
      · rintro ⟨a, b⟩
        exact ⟨fun x hx => a x (List.mem_cons_of_mem _ hx), (List.pairwise_cons.1 b).2⟩
theorem lockGo_none : ∀ (l : List WantB), lockGo none 0 l = none ↔ (∀ w ∈ l, wantE w = 0) ∧ l.Pairwise wLt
  | [] => by simp [lockGo]
  | w :: l => by
    unfold lockGo
    have he : lockE none w = wantE w := by
      unfold lockE
      by_cases h : wantE w ≠ 0
      · rw [if_pos h]
      · rw [if_neg h]; simp only [ne_eq, Decidable.not_not] at h; exact h.symm
    rw [he]
    by_cases h : wantE w ≠ 0
    · rw [if_pos h]
      exact ⟨fun e => (by cases e), fun e => absurd (e.1 w (List.mem_cons_self ..)) h⟩
    · rw [if_neg h, lockGo_some l w 1]
      constructor
      · rintro ⟨a, b⟩
        refine ⟨fun x hx => ?_, b⟩
        rcases List.mem_cons.1 hx with rfl | hx
        · simpa using h
        · exact a x hx
      · rintro ⟨a, b⟩
        exact ⟨fun x hx => a x (List.mem_cons_of_mem _ hx), b⟩
theorem LockOk.er {l : List WantB} (h : LockOk l) : lockEr l = ⟨0, none⟩ := by
  unfold lockEr
  rw [if_neg (by have := h.few; omega), (lockGo_none l).2 ⟨h.each, h.strict⟩]
end Go.Proofs.YtomceddfbfpjjaaGreatDoor

namespace Go.Proofs.YtomceddfbfpjjaaGreatDoor
open Go

/-- What is right in what is wanted. -/
structure WantOk (w : WantB) : Prop where
  name : partB (bl w.name) = true
  url : linkE (bl w.url) = 0
  kind : bl w.kind ∈ wkinds
  strip : 0 ≤ w.strip ∧ w.strip ≤ 6
  plain : bl w.kind = kPlain → w.strip = 0
  sum : 0 ≤ w.sum ∧ w.sum < 1000000007
theorem wantE_zero {w : WantB} (h : wantE w = 0) : WantOk w := by
  unfold wantE at h
  split at h
  · cases h
  rename_i h1
  split at h
  · rename_i h2; exact absurd h h2
  rename_i h2
  split at h
  · cases h
  rename_i h3
  split at h
  · cases h
  rename_i h4
  split at h
  · cases h
  rename_i h5
  split at h
  · cases h
  rename_i h6
  refine ⟨by simpa using h1, by simpa using h2, by simpa using h3, by omega, fun e => ?_, ?_⟩
  · exact Classical.byContradiction fun hn => h5 ⟨e, hn⟩
  · unfold rightB at h6
    simp only [Bool.not_eq_false, Bool.and_eq_true, decide_eq_true_eq] at h6
    exact h6
end Go.Proofs.YtomceddfbfpjjaaGreatDoor
