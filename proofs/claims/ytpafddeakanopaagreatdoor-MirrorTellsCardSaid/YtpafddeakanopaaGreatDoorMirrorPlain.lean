/- Plain: rules of mirrors, and the ways to a link. No program in sight. -/
import Derived.Test.YtpafddeakanopaaGreatDoorPathPlain
namespace Go.Proofs.YtpafddeakanopaaGreatDoor
open Go

/-- A rule: what a link begins with; what is put in its place. -/
abbrev RuleL := List UInt8 × List (List UInt8)
def firstE : List (List UInt8) → Nat
  | [] => 0
  | t :: r => if beginE t = 0 then firstE r else beginE t
def oneE (r : RuleL) : Nat := if beginE r.1 = 0 then (if 8 < r.2.length then 8 else firstE r.2) else beginE r.1
/-- The first rule that is none: where, and its error. -/
def badAt : Nat → List RuleL → Option (Nat × Nat)
  | _, [] => none
  | i, r :: l => if oneE r = 0 then badAt (i + 1) l else some (i, oneE r)
/-- Which rule: the longest with which a link begins, the first of these. -/
def takes (s : List UInt8) (acc : Option RuleL) (r : RuleL) : Bool := Lib.hasPrefix s r.1 && (match acc with | none => true | some q => decide (q.1.length < r.1.length))
def pickR (s : List UInt8) : Option RuleL → List RuleL → Option RuleL
  | acc, [] => acc
  | acc, r :: l => pickR s (if takes s acc r then some r else acc) l
/-- The links that come of one rule, each once. -/
def waysGo (f s : List UInt8) : List (List UInt8) → List (List UInt8) → List (List UInt8)
  | out, [] => out
  | out, t :: r => if swapE f t s = 0 ∧ ¬ (swapT f t s) ∈ out then waysGo f s (out ++ [swapT f t s]) r else waysGo f s out r
def waysR (s : List UInt8) : Option RuleL → List (List UInt8)
  | none => []
  | some r => waysGo r.1 s [] r.2
def waysOut (l : List RuleL) (s : List UInt8) : List (List UInt8) :=
  if s ∈ waysR s (pickR s none l) then waysR s (pickR s none l) else waysR s (pickR s none l) ++ [s]

theorem firstE_le : ∀ l, firstE l ≤ 13
  | [] => by decide
  | t :: r => by rw [firstE]; split; exact firstE_le r; exact beginE_le t
theorem oneE_le (r : RuleL) : oneE r ≤ 13 := by
  unfold oneE
  split
  · split
    · decide
    · exact firstE_le _
  · exact beginE_le _
theorem badAt_le : ∀ (l : List RuleL) (i : Nat) {p : Nat × Nat}, badAt i l = some p → p.2 ≤ 13 ∧ p.2 ≠ 0
  | [], _, _, h => by cases h
  | r :: l, i, p, h => by
    rw [badAt] at h
    split at h
    · exact badAt_le l _ h
    · rename_i h0; obtain rfl := Option.some.inj h; exact ⟨oneE_le r, h0⟩
theorem badAt_none : ∀ (l : List RuleL) (i : Nat), badAt i l = none ↔ ∀ r ∈ l, oneE r = 0
  | [], _ => by simp [badAt]
  | r :: l, i => by
    rw [badAt]
    split
    · rename_i h; rw [badAt_none l]; simp [h]
    · rename_i h; simp [h]
theorem firstE_zero : ∀ {l : List (List UInt8)}, firstE l = 0 → ∀ t ∈ l, beginE t = 0
  | [], _, _, h => by cases h
  | t :: r, h0, x, hx => by
    rw [firstE] at h0
    split at h0
    · rename_i h1
      rcases List.mem_cons.1 hx with rfl | hx
      · exact h1
      · exact firstE_zero h0 x hx
    · rename_i h1; exact absurd h0 h1

/-- Every way is a link, if the link is; each is there once. -/
theorem waysGo_ok {f s : List UInt8} : ∀ (ts out : List (List UInt8)), (∀ x ∈ out, linkE x = 0) → out.Nodup → (∀ x ∈ waysGo f s out ts, linkE x = 0) ∧ (waysGo f s out ts).Nodup
  | [], out, h, hn => ⟨h, hn⟩
  | t :: r, out, h, hn => by
    rw [waysGo]
    split
    · rename_i c
      refine waysGo_ok r _ ?_ ?_
      · intro x hx
        rcases List.mem_append.1 hx with hx | hx
        · exact h x hx
        · obtain rfl := List.mem_singleton.1 hx
          exact (swap_back c.1).2.2.1
      · rw [List.nodup_append]
        refine ⟨hn, by simp, ?_⟩
        intro a ha b hb e
        obtain rfl := List.mem_singleton.1 hb
        subst e; exact c.2 ha
    · exact waysGo_ok r out h hn
theorem waysOut_ok {l : List RuleL} {s : List UInt8} (hs : linkE s = 0) : (∀ x ∈ waysOut l s, linkE x = 0) ∧ (waysOut l s).Nodup ∧ s ∈ waysOut l s := by
  have key : (∀ x ∈ waysR s (pickR s none l), linkE x = 0) ∧ (waysR s (pickR s none l)).Nodup := by
    cases pickR s none l with
    | none => exact ⟨(fun x hx => by cases hx), List.nodup_nil⟩
    | some r => exact waysGo_ok r.2 [] (fun x hx => by cases hx) List.nodup_nil
  unfold waysOut
  split
  · rename_i h; exact ⟨key.1, key.2, h⟩
  · rename_i h
    refine ⟨?_, ?_, by simp⟩
    · intro x hx
      rcases List.mem_append.1 hx with hx | hx
      · exact key.1 x hx
      · obtain rfl := List.mem_singleton.1 hx; exact hs
    · rw [List.nodup_append]
      refine ⟨key.2, by simp, ?_⟩
      intro a ha b hb e
      obtain rfl := List.mem_singleton.1 hb
      subst e; exact h ha

/-! a rule that is not the longest changes nothing -/
theorem pickR_app (s : List UInt8) : ∀ (a b : List RuleL) (acc : Option RuleL), pickR s acc (a ++ b) = pickR s (pickR s acc a) b
  | [], _, _ => rfl
  | r :: a, b, acc => by rw [List.cons_append, pickR, pickR, pickR_app s a b]
theorem takes_no {s : List UInt8} {acc : Option RuleL} {r : RuleL} (h : Lib.hasPrefix s r.1 = false) : takes s acc r = false := by unfold takes; rw [h]; rfl
theorem pick_longer {s : List UInt8} {r : RuleL} : ∀ (l : List RuleL) (acc : Option RuleL), (∀ q, acc = some q → q.1.length ≤ r.1.length) →
    (∃ x ∈ l, Lib.hasPrefix s x.1 = true ∧ r.1.length < x.1.length) → pickR s (some r) l = pickR s acc l
  | [], _, _, ⟨x, hx, _⟩ => by cases hx
  | y :: l, acc, ha, ⟨x, hx, h1, h2⟩ => by
    rw [pickR, pickR]
    by_cases hy : Lib.hasPrefix s y.1 = true
    · by_cases hl : r.1.length < y.1.length
      · have t1 : takes s (some r) y = true := by unfold takes; rw [hy]; simpa using hl
        have t2 : takes s acc y = true := by
          unfold takes; rw [hy]
          cases hacc : acc with
          | none => rfl
          | some q => have := ha q hacc; simp; omega
        rw [t1, t2, if_pos rfl, if_pos rfl]
      · have t1 : takes s (some r) y = false := by unfold takes; rw [hy]; simpa using hl
        rw [t1]
        have hx2 : x ∈ l := by
          rcases List.mem_cons.1 hx with rfl | h
          · exact absurd h2 hl
          · exact h
        refine pick_longer l _ ?_ ⟨x, hx2, h1, h2⟩
        intro q hq
        split at hq
        · obtain rfl := Option.some.inj hq; omega
        · exact ha q hq
    · have hy2 : Lib.hasPrefix s y.1 = false := by simpa using hy
      rw [takes_no hy2, takes_no hy2]
      have hx2 : x ∈ l := by
        rcases List.mem_cons.1 hx with rfl | h
        · exact absurd h1 hy
        · exact h
      exact pick_longer l acc ha ⟨x, hx2, h1, h2⟩
/-- Whatever has been picked is no shorter than each that was there, with which the link begins. -/
theorem pick_max {s : List UInt8} : ∀ (l : List RuleL) (acc : Option RuleL), (∀ q, acc = some q → ∃ p, pickR s acc l = some p ∧ q.1.length ≤ p.1.length) ∧
    (∀ x ∈ l, Lib.hasPrefix s x.1 = true → ∃ p, pickR s acc l = some p ∧ x.1.length ≤ p.1.length)
  | [], acc => ⟨fun q h => ⟨q, h, Nat.le_refl _⟩, fun x hx => by cases hx⟩
  | y :: l, acc => by
    obtain ⟨i1, i2⟩ := pick_max (s := s) l (if takes s acc y then some y else acc)
    rw [pickR]
    by_cases ht : takes s acc y = true
    · rw [if_pos ht] at i1 i2 ⊢
      obtain ⟨p, hp, hl⟩ := i1 y rfl
      have hq : ∀ q, acc = some q → q.1.length ≤ y.1.length := fun q hq => by
        subst hq
        unfold takes at ht
        simp only [Bool.and_eq_true, decide_eq_true_eq] at ht
        omega
      refine ⟨fun q h => ⟨p, hp, Nat.le_trans (hq q h) hl⟩, fun x hx hx1 => ?_⟩
      rcases List.mem_cons.1 hx with rfl | hx
      · exact ⟨p, hp, hl⟩
      · exact i2 x hx hx1
    · have ht2 : takes s acc y = false := by simpa using ht
      rw [ht2] at i1 i2 ⊢
      refine ⟨i1, fun x hx hx1 => ?_⟩
      rcases List.mem_cons.1 hx with rfl | hx
      · cases hacc : acc with
        | none => subst hacc; exfalso; unfold takes at ht2; rw [hx1] at ht2; cases ht2
        | some q =>
          obtain ⟨p, hp, hl⟩ := i1 q hacc
          subst hacc
          refine ⟨p, hp, Nat.le_trans ?_ hl⟩
          unfold takes at ht2
          rw [hx1] at ht2
          simp only [Bool.true_and, decide_eq_false_iff_not] at ht2
          omega
      · exact i2 x hx hx1
/-- The law: without a rule with which the link does not begin, or that is shorter than another one with which it begins. -/
theorem pick_less {s : List UInt8} (a b : List RuleL) (r : RuleL) (h : Lib.hasPrefix s r.1 = false ∨ ∃ x ∈ a ++ r :: b, Lib.hasPrefix s x.1 = true ∧ r.1.length < x.1.length) :
    pickR s none (a ++ b) = pickR s none (a ++ r :: b) := by
  rw [pickR_app, pickR_app, pickR]
  by_cases ht : takes s (pickR s none a) r = true
  · rw [if_pos ht]
    have hp : Lib.hasPrefix s r.1 = true := by unfold takes at ht; simp only [Bool.and_eq_true] at ht; exact ht.1
    have hq : ∀ q, pickR s none a = some q → q.1.length ≤ r.1.length := fun q hq => by
      unfold takes at ht
      rw [hq] at ht
      simp only [Bool.and_eq_true, decide_eq_true_eq] at ht
      omega
    obtain ⟨x, hx, h1, h2⟩ : ∃ x ∈ b, Lib.hasPrefix s x.1 = true ∧ r.1.length < x.1.length := by
      rcases h with h | ⟨x, hx, h1, h2⟩
      · rw [hp] at h; cases h
      · rcases List.mem_append.1 hx with hx | hx
        · obtain ⟨p, hp2, hl⟩ := (pick_max (s := s) a none).2 x hx h1
          have := hq p hp2
          omega
        · rcases List.mem_cons.1 hx with rfl | hx
          · omega
          · exact ⟨x, hx, h1, h2⟩
    exact (pick_longer b _ hq ⟨x, hx, h1, h2⟩).symm
  · rw [if_neg ht]
theorem waysOut_less {s : List UInt8} (a b : List RuleL) (r : RuleL) (h : Lib.hasPrefix s r.1 = false ∨ ∃ x ∈ a ++ r :: b, Lib.hasPrefix s x.1 = true ∧ r.1.length < x.1.length) : waysOut (a ++ b) s = waysOut (a ++ r :: b) s := by
  unfold waysOut; rw [pick_less a b r h]
end Go.Proofs.YtpafddeakanopaaGreatDoor
