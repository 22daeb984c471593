/- A tape of records, in plain lists. -/
import Derived.Test.YtpafddeakanopaaDoorNumPlain
import Derived.Test.YtpafddeakanopaaDoorRefLinkPlain
namespace Go.Proofs.YtpafddeakanopaaDoor
open Go

/-- A text's record. -/
def recL (s : List UInt8) : List UInt8 := Lib.decDigits s.length ++ 58 :: (s ++ [10, 46])
/-- The record at the beginning. -/
def oneL (l : List UInt8) : Option (List UInt8) :=
  if (Lib.cut l [58]).2.2 = true then
    match numOf (Lib.cut l [58]).1 9 with
    | none => none
    | some n => if n ≤ 20000 ∧ n + 2 ≤ (Lib.cut l [58]).2.1.length ∧ ((Lib.cut l [58]).2.1.drop n).take 2 = [10, 46] then some ((Lib.cut l [58]).2.1.take n) else none
  else none
def readL : Nat → List UInt8 → List (List UInt8)
  | 0, _ => []
  | f + 1, l => match oneL l with
    | none => []
    | some s => s :: readL f (l.drop (recL s).length)
/-- Records, one behind the other. -/
def recsL (l : List (List UInt8)) : List UInt8 := l.flatMap recL

theorem colon_dec (n : Nat) : (58 : UInt8) ∉ Lib.decDigits n := fun h => by
  have := decDigits_isD n 58 h
  revert this; unfold isD; decide
theorem dec_nine (n : Nat) (h : n ≤ 20000) : (Lib.decDigits n).length ≤ 9 := decDigits_len_le 8 n (by omega)
theorem recL_len (s : List UInt8) : (recL s).length = (Lib.decDigits s.length).length + 1 + s.length + 2 := by
  unfold recL; simp; omega
theorem recL_pos (s : List UInt8) : 3 ≤ (recL s).length := by rw [recL_len]; omega

theorem oneL_rec (s r : List UInt8) (h : s.length ≤ 20000) : oneL (recL s ++ r) = some s := by
  have e : recL s ++ r = Lib.decDigits s.length ++ 58 :: (s ++ ([10, 46] ++ r)) := by unfold recL; simp
  unfold oneL
  rw [e, cut_hit (colon_dec _)]
  simp only [if_true]
  rw [numOf_dec _ _ (dec_nine _ h)]
  simp only
  rw [if_pos ⟨h, by simp, by rw [List.drop_left]; rfl⟩, List.take_left]
theorem oneL_nil : oneL [] = none := by unfold oneL; rw [cut_miss (by simp)]; simp
/-- What is cut short is no record. -/
theorem oneL_short (s : List UInt8) (k : Nat) (hl : k < (recL s).length) : oneL ((recL s).take k) = none := by
  have hl' := hl
  rw [recL_len] at hl'
  unfold recL
  by_cases h : k ≤ (Lib.decDigits s.length).length
  · rw [List.take_append_of_le_length h]
    have : (58 : UInt8) ∉ (Lib.decDigits s.length).take k := fun hm => colon_dec s.length (List.mem_of_mem_take hm)
    unfold oneL; rw [cut_miss this]; simp
  · obtain ⟨j, rfl⟩ : ∃ j, k = (Lib.decDigits s.length).length + (j + 1) := ⟨k - (Lib.decDigits s.length).length - 1, by omega⟩
    rw [List.take_length_add_append, List.take_succ_cons]
    unfold oneL
    rw [cut_hit (colon_dec _)]
    simp only [if_true]
    split
    · rfl
    · rename_i n hn
      have hs := (numOf_some hn).1
      have hn2 : n = s.length := by have := congrArg (valD 0) hs; rw [valD_dec, valD_dec] at this; exact this.symm
      rw [if_neg]
      rintro ⟨_, h2, _⟩
      rw [List.length_take] at h2
      omega
theorem recsL_snoc (l : List (List UInt8)) (s : List UInt8) : recsL (l ++ [s]) = recsL l ++ recL s := by simp [recsL]
theorem recsL_cons (l : List (List UInt8)) (s : List UInt8) : recsL (s :: l) = recL s ++ recsL l := by simp [recsL]
theorem recsL_len (l : List (List UInt8)) : l.length ≤ (recsL l).length := by
  induction l with
  | nil => simp
  | cons s l ih => rw [recsL_cons, List.length_append, List.length_cons]; have := recL_pos s; omega

/-- What is read: the records that begin it. -/
theorem readL_recs (l : List (List UInt8)) (p : List UInt8) (hl : ∀ s ∈ l, s.length ≤ 20000) (hp : oneL p = none) : ∀ f, l.length < f → readL f (recsL l ++ p) = l := by
  induction l with
  | nil =>
    intro f hf
    cases f with
    | zero => rfl
    | succ f => show readL (f + 1) p = []; unfold readL; rw [hp]
  | cons s l ih =>
    intro f hf
    cases f with
    | zero => simp at hf
    | succ f =>
      rw [recsL_cons, List.append_assoc]
      unfold readL
      rw [oneL_rec _ _ (hl s (by simp))]
      simp only [List.drop_left]
      rw [ih (fun x hx => hl x (by simp [hx])) f (by simp at hf; omega)]
/-- The tape's text: what is read, and how much that is. -/
def tapeL (l : List UInt8) : List (List UInt8) := readL (l.length + 1) l
theorem tapeL_recs (l : List (List UInt8)) (p : List UInt8) (hl : ∀ s ∈ l, s.length ≤ 20000) (hp : oneL p = none) : tapeL (recsL l ++ p) = l :=
  readL_recs l p hl hp _ (by rw [List.length_append]; have := recsL_len l; omega)

theorem cutE {l sep : List UInt8} (h : (Lib.cut l sep).2.2 = true) : l = (Lib.cut l sep).1 ++ (sep ++ (Lib.cut l sep).2.1) := by
  rcases Lib.index_spec l sep with ⟨h1, _⟩ | ⟨i, h1, _, h3, _⟩
  · unfold Lib.cut at h; rw [h1] at h; simp at h
  · obtain ⟨r, hr⟩ := List.isPrefixOf_iff_prefix.1 h3
    have e : Lib.cut l sep = (l.take i, l.drop (i + sep.length), true) := by
      unfold Lib.cut
      rw [h1, if_pos (by omega)]
      simp
    rw [e]
    show l = l.take i ++ (sep ++ l.drop (i + sep.length))
    have : l.drop (i + sep.length) = r := by rw [← List.drop_drop, ← hr, List.drop_left]
    rw [this, hr, List.take_append_drop]
/-- A record that is found is one. -/
theorem oneL_inv {l x : List UInt8} (h : oneL l = some x) : x.length ≤ 20000 ∧ ∃ r, l = recL x ++ r := by
  unfold oneL at h
  split at h
  · rename_i hc
    have he := cutE hc
    split at h
    · cases h
    · rename_i n hn
      split at h
      · rename_i hx
        injection h with h
        obtain ⟨h1, h2, h3⟩ := hx
        have ha := (numOf_some hn).1
        have hxl : x.length = n := by rw [← h, List.length_take]; omega
        refine ⟨by omega, (Lib.cut l [58]).2.1.drop (n + 2), ?_⟩
        have hb : (Lib.cut l [58]).2.1 = x ++ ([10, 46] ++ (Lib.cut l [58]).2.1.drop (n + 2)) := by
          have e1 := (List.take_append_drop n (Lib.cut l [58]).2.1).symm
          have e2 := (List.take_append_drop 2 ((Lib.cut l [58]).2.1.drop n)).symm
          rw [h3, List.drop_drop] at e2
          rw [h, e2] at e1
          exact e1
        unfold recL
        rw [hxl, ← ha]
        refine he.trans ?_
        conv => lhs; rw [hb]
        simp
      · cases h
  · cases h
theorem oneL_ne {l x : List UInt8} (h : oneL l = some x) : (l.drop (recL x).length).length < l.length ∧ (recL x).length ≤ l.length := by
  obtain ⟨_, r, rfl⟩ := oneL_inv h
  have := recL_pos x
  rw [List.drop_left, List.length_append]; omega
theorem readL_fuel : ∀ (m : Nat) (l : List UInt8), l.length ≤ m → ∀ f, l.length < f → readL f l = readL (l.length + 1) l
  | m, l, hm, f, hf => by
    cases f with
    | zero => omega
    | succ f =>
      unfold readL
      cases h : oneL l with
      | none => rfl
      | some x =>
        simp only
        have := (oneL_ne h).1
        match m, hm with
        | 0, hm => omega
        | m + 1, hm =>
          rw [readL_fuel m _ (by omega) f (by omega), readL_fuel m _ (by omega) l.length (by omega)]
theorem tapeL_none {l : List UInt8} (h : oneL l = none) : tapeL l = [] := by unfold tapeL readL; rw [h]
theorem tapeL_some {l x : List UInt8} (h : oneL l = some x) : tapeL l = x :: tapeL (l.drop (recL x).length) := by
  have := (oneL_ne h).1
  unfold tapeL
  conv => lhs; unfold readL
  rw [h]
  simp only
  rw [readL_fuel _ _ (Nat.le_refl _) l.length (by omega)]

theorem readL_prefix : ∀ (f : Nat) (l : List UInt8), ∃ r, l = recsL (readL f l) ++ r
  | 0, l => ⟨l, rfl⟩
  | f + 1, l => by
    unfold readL
    cases h : oneL l with
    | none => exact ⟨l, rfl⟩
    | some x =>
      obtain ⟨_, r, rfl⟩ := oneL_inv h
      simp only
      rw [List.drop_left]
      obtain ⟨r2, hr⟩ := readL_prefix f r
      exact ⟨r2, by rw [recsL_cons, List.append_assoc, ← hr]⟩
theorem tapeL_prefix (l : List UInt8) : l.take (recsL (tapeL l)).length = recsL (tapeL l) := by
  obtain ⟨r, hr⟩ := readL_prefix (l.length + 1) l
  have : l.take (recsL (tapeL l)).length = (recsL (tapeL l) ++ r).take (recsL (tapeL l)).length := by congr 1
  rw [this, List.take_left]
end Go.Proofs.YtpafddeakanopaaDoor
