/- A tape of records, in plain lists. A shop, in plain Lean: its deeds, its records, and how it is opened anew. What a record does to a shop: word by word, in plain Lean. What a shop has told its tape makes the same shop again: in plain Lean. -/
import Derived.Test.YtcjjbpoaojjojaaGreatDoorJPlainly
import Derived.Test.YtcjjbpoaojjojaaGreatDoorJWantPlains
import Derived.Test.YtcjjbpoaojjojaaGreatDoorJMirrorUp
import Derived.Test.YtcjjbpoaojjojaaGreatDoorJLockHeldPlains
namespace Go.Proofs.YtcjjbpoaojjojaaGreatDoor
open Go

/-- A text's record. -/
def recL (s : List UInt8) : List UInt8 := Lib.decDigits s.length ++ 58 :: (s ++ [10, 46])
/-- The record at the beginning. -/
def oneL (l : List UInt8) : Option (List UInt8) :=
  if (Lib.cut l [58]).2.2 = true then
    match numOf (Lib.cut l [58]).1 9 with
    | none => none
    | some n => if n ≤ 20000 ∧ n + 2 ≤ (Lib.cut l [58]).2.1.length ∧ ((Lib.cut l [58]).2.1.drop n).take 2 = [10, 46] then some ((Lib.cut l [58]).2.1.take n) else none
  else none
def readL : Nat → List UInt8 → List (List UInt8)
  | 0, _ => []
  | f + 1, l => match oneL l with
    | none => []
    | some s => s :: readL f (l.drop (recL s).length)
/-- Records, one behind the other. -/
def recsL (l : List (List UInt8)) : List UInt8 := l.flatMap recL

theorem colon_dec (n : Nat) : (58 : UInt8) ∉ Lib.decDigits n := fun h => by
  have := decDigits_isD n 58 h
  revert this; unfold isD; decide
theorem dec_nine (n : Nat) (h : n ≤ 20000) : (Lib.decDigits n).length ≤ 9 := decDigits_len_le 8 n (by omega)
theorem recL_len (s : List UInt8) : (recL s).length = (Lib.decDigits s.length).length + 1 + s.length + 2 := by
  unfold recL; simp; omega
theorem recL_pos (s : List UInt8) : 3 ≤ (recL s).length := by rw [recL_len]; omega

theorem oneL_rec (s r : List UInt8) (h : s.length ≤ 20000) : oneL (recL s ++ r) = some s := by
  have e : recL s ++ r = Lib.decDigits s.length ++ 58 :: (s ++ ([10, 46] ++ r)) := by unfold recL; simp
  unfold oneL
  rw [e, cut_hit (colon_dec _)]
  simp only [if_true]
  rw [numOf_dec _ _ (dec_nine _ h)]
  simp only
  rw [if_pos ⟨h, by simp, by rw [List.drop_left]; rfl⟩, List.take_left]
theorem oneL_nil : oneL [] = none := by unfold oneL; rw [cut_miss (by simp)]; simp
/-- What is cut short is no record. -/
theorem oneL_short (s : List UInt8) (k : Nat) (hl : k < (recL s).length) : oneL ((recL s).take k) = none := by
  have hl' := hl
  rw [recL_len] at hl'
  unfold recL
  by_cases h : k ≤ (Lib.decDigits s.length).length
  · rw [List.take_append_of_le_length h]
    have : (58 : UInt8) ∉ (Lib.decDigits s.length).take k := fun hm => colon_dec s.length (List.mem_of_mem_take hm)
    unfold oneL; rw [cut_miss this]; simp
  · obtain ⟨j, rfl⟩ : ∃ j, k = (Lib.decDigits s.length).length + (j + 1) := ⟨k - (Lib.decDigits s.length).length - 1, by omega⟩
    rw [List.take_length_add_append, List.take_succ_cons]
    unfold oneL
    rw [cut_hit (colon_dec _)]
    simp only [if_true]
    split
    · rfl
    · rename_i n hn
      have hs := (numOf_some hn).1
      have hn2 : n = s.length := by have := congrArg (valD 0) hs; rw [valD_dec, valD_dec] at this; exact this.symm
      rw [if_neg]
      rintro ⟨_, h2, _⟩
      rw [List.length_take] at h2
      omega
theorem recsL_snoc (l : List (List UInt8)) (s : List UInt8) : recsL (l ++ [s]) = recsL l ++ recL s := by simp [recsL]
theorem recsL_cons (l : List (List UInt8)) (s : List UInt8) : recsL (s :: l) = recL s ++ recsL l := by simp [recsL]
theorem recsL_len (l : List (List UInt8)) : l.length ≤ (recsL l).length := by
  induction l with
  | nil => simp
  | cons s l ih => rw [recsL_cons, List.length_append, List.length_cons]; have := recL_pos s; omega

/-- What is read: the records that begin it. -/
theorem readL_recs (l : List (List UInt8)) (p : List UInt8) (hl : ∀ s ∈ l, s.length ≤ 20000) (hp : oneL p = none) : ∀ f, l.length < f → readL f (recsL l ++ p) = l := by
  induction l with
  | nil =>
    intro f hf
    cases f with
    | zero => rfl
    | succ f => show readL (f + 1) p = []; unfold readL; rw [hp]
  | cons s l ih =>
    intro f hf
    cases f with
    | zero => simp at hf
    | succ f =>
      rw [recsL_cons, List.append_assoc]
      unfold readL
      rw [oneL_rec _ _ (hl s (by simp))]
      simp only [List.drop_left]
      rw [ih (fun x hx => hl x (by simp [hx])) f (by simp at hf; omega)]
/-- The tape's text: what is read, and how much that is. -/
def tapeL (l : List UInt8) : List (List UInt8) := readL (l.length + 1) l
theorem tapeL_recs (l : List (List UInt8)) (p : List UInt8) (hl : ∀ s ∈ l, s.length ≤ 20000) (hp : oneL p = none) : tapeL (recsL l ++ p) = l :=
  readL_recs l p hl hp _ (by rw [List.length_append]; have := recsL_len l; omega)

theorem cutE {l sep : List UInt8} (h : (Lib.cut l sep).2.2 = true) : l = (Lib.cut l sep).1 ++ (sep ++ (Lib.cut l sep).2.1) := by
  rcases Lib.index_spec l sep with ⟨h1, _⟩ | ⟨i, h1, _, h3, _⟩
  · unfold Lib.cut at h; rw [h1] at h; simp at h
  · obtain ⟨r, hr⟩ := List.isPrefixOf_iff_prefix.1 h3
    have e : Lib.cut l sep = (l.take i, l.drop (i + sep.length), true) := by
      unfold Lib.cut
      rw [h1, if_pos (by omega)]
      simp
    rw [e]
    show l = l.take i ++ (sep ++ l.drop (i + sep.length))
    have : l.drop (i + sep.length) = r := by rw [← List.drop_drop, ← hr, List.drop_left]
    rw [this, hr, List.take_append_drop]
/-- A record that is found is one. -/
theorem oneL_inv {l x : List UInt8} (h : oneL l = some x) : x.length ≤ 20000 ∧ ∃ r, l = recL x ++ r := by
  unfold oneL at h
  split at h
  · rename_i hc
    have he := cutE hc
    split at h
    · cases h
    · rename_i n hn
      split at h
      · rename_i hx
        injection h with h
        obtain ⟨h1, h2, h3⟩ := hx
        have ha := (numOf_some hn).1
        have hxl : x.length = n := by rw [← h, List.length_take]; omega
        refine ⟨by omega, (Lib.cut l [58]).2.1.drop (n + 2), ?_⟩
        have hb : (Lib.cut l [58]).2.1 = x ++ ([10, 46] ++ (Lib.cut l [58]).2.1.drop (n + 2)) := by
          have e1 := (List.take_append_drop n (Lib.cut l [58]).2.1).symm
          have e2 := (List.take_append_drop 2 ((Lib.cut l [58]).2.1.drop n)).symm
          rw [h3, List.drop_drop] at e2
          rw [h, e2] at e1
          exact e1
        unfold recL
        rw [hxl, ← ha]
        refine he.trans ?_
        conv => lhs; rw [hb]
        simp
      · cases h
  · cases h
theorem oneL_ne {l x : List UInt8} (h : oneL l = some x) : (l.drop (recL x).length).length < l.length ∧ (recL x).length ≤ l.length := by
  obtain ⟨_, r, rfl⟩ := oneL_inv h
  have := recL_pos x
  rw [List.drop_left, List.length_append]; omega
theorem readL_fuel : ∀ (m : Nat) (l : List UInt8), l.length ≤ m → ∀ f, l.length < f → readL f l = readL (l.length + 1) l
  | m, l, hm, f, hf => by
    cases f with
    | zero => omega
    | succ f =>
      unfold readL
      cases h : oneL l with
      | none => rfl
      | some x =>
        simp only
        have := (oneL_ne h).1
        match m, hm with
        | 0, hm => omega
        | m + 1, hm =>
          rw [readL_fuel m _ (by omega) f (by omega), readL_fuel m _ (by omega) l.length (by omega)]
theorem tapeL_none {l : List UInt8} (h : oneL l = none) : tapeL l = [] := by unfold tapeL readL; rw [h]
theorem tapeL_some {l x : List UInt8} (h : oneL l = some x) : tapeL l = x :: tapeL (l.drop (recL x).length) := by
  have := (oneL_ne h).1
  unfold tapeL
  conv => lhs; unfold readL
  rw [h]
  simp only
  rw [readL_fuel _ _ (Nat.le_refl _) l.length (by omega)]

theorem readL_prefix : ∀ (f : Nat) (l : List UInt8), ∃ r, l = recsL (readL f l) ++ r
  | 0, l => ⟨l, rfl⟩
  | f + 1, l => by
    unfold readL
    cases h : oneL l with
    | none => exact ⟨l, rfl⟩
    | some x =>
      obtain ⟨_, r, rfl⟩ := oneL_inv h
      simp only
      rw [List.drop_left]
      obtain ⟨r2, hr⟩ := readL_prefix f r
      exact ⟨r2, by rw [recsL_cons, List.append_assoc, ← hr]⟩
theorem tapeL_prefix (l : List UInt8) : l.take (recsL (tapeL l)).length = recsL (tapeL l) := by
  obtain ⟨r, hr⟩ := readL_prefix (l.length + 1) l
  have : l.take (recsL (tapeL l)).length = (recsL (tapeL l) ++ r).take (recsL (tapeL l)).length := by congr 1
  rw [this, List.take_left]
/-- What 'write' leaves and answers: the disk's bytes, power, cut; an error. -/
def WroteL (bs : List UInt8) (off : Bool) (c : Int) (r : List UInt8) : List UInt8 × Bool × Int × Bool :=
  if off = true then (bs, true, c, false)
  else if 0 ≤ c ∧ c < r.length then (bs ++ r.take c.toNat, true, c, false)
  else (bs ++ r, false, if 0 ≤ c then c - r.length else c, true)
end Go.Proofs.YtcjjbpoaojjojaaGreatDoor

namespace Go.Proofs.YtcjjbpoaojjojaaGreatDoor
open Go

/-- A tape: its bytes; no power; how many bytes until power fails (-1: it does not). -/
structure TapeS where
  bytes : List UInt8
  off : Bool
  cut : Int
/-- A record is appended: the error's number. -/
def appT (t : TapeS) (s : List UInt8) : Nat × TapeS :=
  if 20000 < s.length then (2, t)
  else if 1048576 < t.bytes.length + (recL s).length then (8, t)
  else (if (WroteL t.bytes t.off t.cut (recL s)).2.2.2 = true then 0 else 13, ⟨(WroteL t.bytes t.off t.cut (recL s)).1, (WroteL t.bytes t.off t.cut (recL s)).2.1, (WroteL t.bytes t.off t.cut (recL s)).2.2.1⟩)
/-- A tape is recovered. -/
def recT (t : TapeS) : TapeS := ⟨t.bytes.take (recsL (tapeL t.bytes)).length, false, -1⟩

structure ShopS where
  rules : List RuleL
  lock : List WantB
  held : HeldB
def emptyS : ShopS := ⟨[], [], newH 40⟩
def wRule : List UInt8 := [114, 117, 108, 101]
def wWant : List UInt8 := [119, 97, 110, 116]
def wUnwant : List UInt8 := [117, 110, 119, 97, 110, 116]
def wHold : List UInt8 := [104, 111, 108, 100]
def wDrop : List UInt8 := [100, 114, 111, 112]
/-- A record: a word, a blank, the rest. -/
def recW (k rest : List UInt8) : List UInt8 := k ++ 32 :: rest
def wantS (S : ShopS) (t : TapeS) (w : WantB) : Er × ShopS × TapeS :=
  if (setLk S.lock w).1.code ≠ 0 then ((setLk S.lock w).1, S, t)
  else if (appT t (recW wWant (wantTx w))).1 ≠ 0 then (⟨(appT t (recW wWant (wantTx w))).1, none⟩, S, (appT t (recW wWant (wantTx w))).2)
  else (⟨0, none⟩, { S with lock := (setLk S.lock w).2 }, (appT t (recW wWant (wantTx w))).2)
def dropS (S : ShopS) (t : TapeS) (n : Int) : Nat × ShopS × TapeS :=
  if (ixOf n S.held.sums).isSome = false then (6, S, t)
  else if (appT t (recW wDrop (Lib.decDigits n.toNat))).1 ≠ 0 then ((appT t (recW wDrop (Lib.decDigits n.toNat))).1, S, (appT t (recW wDrop (Lib.decDigits n.toNat))).2)
  else (0, { S with held := (dropH S.held n).2 }, (appT t (recW wDrop (Lib.decDigits n.toNat))).2)
/-- A record, without the tape. -/
def againS (S : ShopS) (r : List UInt8) : Nat × ShopS :=
  if (Lib.cut r [32]).2.2 = false then (1, S)
  else if (Lib.cut r [32]).1 = wRule then
    (if (rulesEr (S.rules ++ [((cutL 32 (Lib.cut r [32]).2.1).headD [], (cutL 32 (Lib.cut r [32]).2.1).tail)])).code ≠ 0 then ((rulesEr (S.rules ++ [((cutL 32 (Lib.cut r [32]).2.1).headD [], (cutL 32 (Lib.cut r [32]).2.1).tail)])).code, S)
      else (0, { S with rules := S.rules ++ [((cutL 32 (Lib.cut r [32]).2.1).headD [], (cutL 32 (Lib.cut r [32]).2.1).tail)] }))
  else if (Lib.cut r [32]).1 = wWant then
    (if (readW (Lib.cut r [32]).2.1).1 ≠ 0 then (1, S) else ((setLk S.lock (readW (Lib.cut r [32]).2.1).2).1.code, { S with lock := (setLk S.lock (readW (Lib.cut r [32]).2.1).2).2 }))
  else if (Lib.cut r [32]).1 = wUnwant then
    ((dropLk S.lock ⟨(Lib.cut r [32]).2.1.toArray⟩).1.code, { S with lock := (dropLk S.lock ⟨(Lib.cut r [32]).2.1.toArray⟩).2 })
  else if (Lib.cut r [32]).1 = wHold then
    (if (readEr (Lib.cut r [32]).2.1).code ≠ 0 then (1, S) else ((putH S.held (readT (Lib.cut r [32]).2.1)).1.code, { S with held := (putH S.held (readT (Lib.cut r [32]).2.1)).2.2 }))
  else if (Lib.cut r [32]).1 = wDrop then
    (match numOf (Lib.cut r [32]).2.1 10 with
      | none => (1, S)
      | some n => ((dropH S.held n).1, { S with held := (dropH S.held n).2 }))
  else (1, S)
def openGo : Nat → ShopS → List (List UInt8) → Er × ShopS
  | _, S, [] => (⟨0, none⟩, S)
  | i, S, r :: l => if (againS S r).1 ≠ 0 then (⟨(againS S r).1, some (i : Int)⟩, S) else openGo (i + 1) (againS S r).2 l
def openS (b : List UInt8) : Er × ShopS := openGo 0 emptyS (tapeL b)
end Go.Proofs.YtcjjbpoaojjojaaGreatDoor

namespace Go.Proofs.YtcjjbpoaojjojaaGreatDoor
open Go

/-- A record's word and rest. -/
def agW (S : ShopS) (k x : List UInt8) : Nat × ShopS :=
  if k = wRule then
    (if (rulesEr (S.rules ++ [((cutL 32 x).headD [], (cutL 32 x).tail)])).code ≠ 0 then ((rulesEr (S.rules ++ [((cutL 32 x).headD [], (cutL 32 x).tail)])).code, S)
      else (0, { S with rules := S.rules ++ [((cutL 32 x).headD [], (cutL 32 x).tail)] }))
  else if k = wWant then
    (if (readW x).1 ≠ 0 then (1, S) else ((setLk S.lock (readW x).2).1.code, { S with lock := (setLk S.lock (readW x).2).2 }))
  else if k = wUnwant then
    ((dropLk S.lock ⟨x.toArray⟩).1.code, { S with lock := (dropLk S.lock ⟨x.toArray⟩).2 })
  else if k = wHold then
    (if (readEr x).code ≠ 0 then (1, S) else ((putH S.held (readT x)).1.code, { S with held := (putH S.held (readT x)).2.2 }))
  else if k = wDrop then
    (match numOf x 10 with
      | none => (1, S)
      | some n => ((dropH S.held n).1, { S with held := (dropH S.held n).2 }))
  else (1, S)
theorem againS_no {S : ShopS} {r : List UInt8} (h : (Lib.cut r [32]).2.2 = false) : againS S r = (1, S) := by unfold againS; rw [if_pos h]
theorem againS_is {S : ShopS} {r k x : List UInt8} (h : Lib.cut r [32] = (k, x, true)) : againS S r = agW S k x := by
  unfold againS agW
  rw [h]
  rw [if_neg (by simp)]
  all_goals (dsimp only; cases numOf x 10 <;> rfl)
theorem agW_rule (S : ShopS) (x : List UInt8) : agW S wRule x = if (rulesEr (S.rules ++ [((cutL 32 x).headD [], (cutL 32 x).tail)])).code ≠ 0 then ((rulesEr (S.rules ++ [((cutL 32 x).headD [], (cutL 32 x).tail)])).code, S) else (0, { S with rules := S.rules ++ [((cutL 32 x).headD [], (cutL 32 x).tail)] }) := by unfold agW; rw [if_pos rfl]
theorem agW_want (S : ShopS) (x : List UInt8) : agW S wWant x = if (readW x).1 ≠ 0 then (1, S) else ((setLk S.lock (readW x).2).1.code, { S with lock := (setLk S.lock (readW x).2).2 }) := by unfold agW; rw [if_neg (by decide), if_pos rfl]
theorem agW_unwant (S : ShopS) (x : List UInt8) : agW S wUnwant x = ((dropLk S.lock ⟨x.toArray⟩).1.code, { S with lock := (dropLk S.lock ⟨x.toArray⟩).2 }) := by unfold agW; rw [if_neg (by decide), if_neg (by decide), if_pos rfl]
theorem agW_hold (S : ShopS) (x : List UInt8) : agW S wHold x = if (readEr x).code ≠ 0 then (1, S) else ((putH S.held (readT x)).1.code, { S with held := (putH S.held (readT x)).2.2 }) := by unfold agW; rw [if_neg (by decide), if_neg (by decide), if_neg (by decide), if_pos rfl]
theorem agW_drop (S : ShopS) (x : List UInt8) : agW S wDrop x = match numOf x 10 with | none => (1, S) | some n => ((dropH S.held n).1, { S with held := (dropH S.held n).2 }) := by unfold agW; rw [if_neg (by decide), if_neg (by decide), if_neg (by decide), if_neg (by decide), if_pos rfl]
theorem agW_other (S : ShopS) {k : List UInt8} (x : List UInt8) (h1 : k ≠ wRule) (h2 : k ≠ wWant) (h3 : k ≠ wUnwant) (h4 : k ≠ wHold) (h5 : k ≠ wDrop) : agW S k x = (1, S) := by unfold agW; rw [if_neg h1, if_neg h2, if_neg h3, if_neg h4, if_neg h5]
theorem openGo_step {i : Nat} {S : ShopS} {r : List UInt8} {l : List (List UInt8)} (h : (againS S r).1 = 0) : openGo i S (r :: l) = openGo (i + 1) (againS S r).2 l := by rw [openGo, if_neg (by omega)]
theorem openGo_bad {i : Nat} {S : ShopS} {r : List UInt8} {l : List (List UInt8)} (h : (againS S r).1 ≠ 0) : openGo i S (r :: l) = (⟨(againS S r).1, some (i : Int)⟩, S) := by rw [openGo, if_pos h]
end Go.Proofs.YtcjjbpoaojjojaaGreatDoor

namespace Go.Proofs.YtcjjbpoaojjojaaGreatDoor
open Go

/-- A tape, and the records that are on it. -/
structure TapeHas (t : TapeS) (recs : List (List UInt8)) : Prop where
  small : ∀ s ∈ recs, s.length ≤ 20000
  fits : t.bytes.length ≤ 1048576
  cut : -1 ≤ t.cut ∧ t.cut ≤ 9223372036854775807
  is : (t.off = false ∧ t.bytes = recsL recs) ∨ (t.off = true ∧ ∃ p, t.bytes = recsL recs ++ p ∧ oneL p = none)
theorem TapeHas.reads {t : TapeS} {recs : List (List UInt8)} (h : TapeHas t recs) : tapeL t.bytes = recs := by
  rcases h.is with ⟨_, e⟩ | ⟨_, p, e, hp⟩
  · rw [e]
    have := tapeL_recs recs [] h.small oneL_nil
    rwa [List.append_nil] at this
  · rw [e]; exact tapeL_recs recs p h.small hp
/-- An append that is told to be done is on the tape; another one is not. -/
theorem appT_has {t : TapeS} {recs : List (List UInt8)} (h : TapeHas t recs) (s : List UInt8) : TapeHas (appT t s).2 (if (appT t s).1 = 0 then recs ++ [s] else recs) := by
  unfold appT
  split
  · rw [if_neg (by simp)]; exact h
  rename_i h1
  split
  · rw [if_neg (by simp)]; exact h
  rename_i h2
  have hsm : ∀ x ∈ recs ++ [s], x.length ≤ 20000 := fun x hx => by
    rcases List.mem_append.1 hx with hx | hx
    · exact h.small x hx
    · obtain rfl := List.mem_singleton.1 hx; omega
  rcases h.is with ⟨e0, e⟩ | ⟨e0, p, e, hp⟩
  · by_cases hk : 0 ≤ t.cut ∧ t.cut < ((recL s).length : Int)
    · have hw : WroteL t.bytes t.off t.cut (recL s) = (t.bytes ++ (recL s).take t.cut.toNat, true, t.cut, false) := by
        unfold WroteL; rw [if_neg (by rw [e0]; simp), if_pos hk]
      rw [hw]
      simp only [Bool.false_eq_true, if_false]
      rw [if_neg (by simp)]
      refine ⟨h.small, ?_, h.cut, .inr ⟨rfl, _, by rw [e], oneL_short s _ (by omega)⟩⟩
      show (t.bytes ++ _).length ≤ _
      rw [List.length_append, List.length_take]; omega
    · have hw : WroteL t.bytes t.off t.cut (recL s) = (t.bytes ++ recL s, false, if 0 ≤ t.cut then t.cut - (recL s).length else t.cut, true) := by
        unfold WroteL; rw [if_neg (by rw [e0]; simp), if_neg hk]
      rw [hw]
      simp only [if_true]
      refine ⟨hsm, ?_, ?_, .inl ⟨rfl, by show t.bytes ++ recL s = _; rw [e, recsL_snoc]⟩⟩
      · show (t.bytes ++ _).length ≤ _
        rw [List.length_append]; omega
      · have := h.cut
        show -1 ≤ (if 0 ≤ t.cut then t.cut - (recL s).length else t.cut) ∧ (if 0 ≤ t.cut then t.cut - (recL s).length else t.cut) ≤ _
        split <;> omega
  · have hw : WroteL t.bytes t.off t.cut (recL s) = (t.bytes, true, t.cut, false) := by
      unfold WroteL; rw [if_pos e0]
    rw [hw]
    simp only [Bool.false_eq_true, if_false]
    rw [if_neg (by simp)]
    exact ⟨h.small, h.fits, h.cut, .inr ⟨rfl, p, e, hp⟩⟩
theorem recT_has {t : TapeS} {recs : List (List UInt8)} (h : TapeHas t recs) : TapeHas (recT t) recs := by
  have hr := h.reads
  have hp := tapeL_prefix t.bytes
  rw [hr] at hp
  unfold recT
  rw [hr, hp]
  refine ⟨h.small, ?_, by show (-1 : Int) ≤ -1 ∧ (-1 : Int) ≤ _; omega, .inl ⟨rfl, rfl⟩⟩
  show (recsL recs).length ≤ _
  have h1 := h.fits
  have : (recsL recs).length ≤ t.bytes.length := by
    have := congrArg List.length hp
    rw [List.length_take] at this; omega
  omega

/-- A shop as its records make it. -/
structure ShopOk (S : ShopS) (recs : List (List UInt8)) : Prop where
  rules : (rulesEr S.rules).code = 0
  lock : LockOk S.lock
  held : HeldOk S.held
  most : S.held.most = 40
  made : openGo 0 emptyS recs = (⟨0, none⟩, S)
theorem openGo_snoc : ∀ (l : List (List UInt8)) (i : Nat) (S T U : ShopS) (r : List UInt8), openGo i S l = (⟨0, none⟩, T) → againS T r = (0, U) → openGo i S (l ++ [r]) = (⟨0, none⟩, U)
  | [], i, S, T, U, r, h, h2 => by
    obtain rfl : S = T := (Prod.mk.injEq .. |>.mp h).2
    show openGo i S [r] = _
    unfold openGo
    rw [h2, if_neg (by simp)]
    rfl
  | x :: l, i, S, T, U, r, h, h2 => by
    rw [List.cons_append]
    unfold openGo at h ⊢
    by_cases hx : (againS S x).1 ≠ 0
    · rw [if_pos hx] at h
      have h3 : (⟨(againS S x).1, some (i : Int)⟩ : Er) = ⟨0, none⟩ := (Prod.mk.injEq .. |>.mp h).1
      injection h3 with _ h4
      cases h4
    · rw [if_neg hx] at h ⊢
      exact openGo_snoc l (i + 1) _ T U r h h2
theorem ShopOk.step {S T : ShopS} {recs : List (List UInt8)} {r : List UInt8} (h : ShopOk S recs) (h2 : againS S r = (0, T)) (hr : (rulesEr T.rules).code = 0) (hl : LockOk T.lock) (hh : HeldOk T.held) (hm : T.held.most = 40) : ShopOk T (recs ++ [r]) :=
  ⟨hr, hl, hh, hm, openGo_snoc recs 0 emptyS S T r h.made h2⟩
/-- A shop, its tape, and the records that they share. -/
structure Shopped (S : ShopS) (t : TapeS) (recs : List (List UInt8)) : Prop where
  shop : ShopOk S recs
  tape : TapeHas t recs
/-- One deed: what was told to be done is done, and is on the tape; else the shop is as it was. -/
theorem Shopped.deed {S T : ShopS} {t : TapeS} {recs : List (List UInt8)} {r : List UInt8} (h : Shopped S t recs) (h2 : againS S r = (0, T)) (hr : (rulesEr T.rules).code = 0) (hl : LockOk T.lock) (hh : HeldOk T.held) (hm : T.held.most = 40) :
    ∃ recs', Shopped (if (appT t r).1 ≠ 0 then S else T) (appT t r).2 recs' := by
  have ha := appT_has h.tape r
  by_cases hc : (appT t r).1 ≠ 0
  · rw [if_pos hc]
    rw [if_neg hc] at ha
    exact ⟨recs, h.shop, ha⟩
  · rw [if_neg hc]
    rw [if_pos (by simpa using hc)] at ha
    exact ⟨recs ++ [r], h.shop.step h2 hr hl hh hm, ha⟩
theorem Shopped.anew {S : ShopS} {t : TapeS} {recs : List (List UInt8)} (h : Shopped S t recs) : Shopped S (recT t) recs := ⟨h.shop, recT_has h.tape⟩
end Go.Proofs.YtcjjbpoaojjojaaGreatDoor
