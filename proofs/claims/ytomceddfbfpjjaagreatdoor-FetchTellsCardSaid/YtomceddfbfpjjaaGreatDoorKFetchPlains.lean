/- Fetching, in plain Lean. A link is short. Numbers of errors are small. Facts of fetching, in plain Lean. A plain text is fetched: the closed fact, in plain Lean. -/
import Derived.Test.YtomceddfbfpjjaaGreatDoorKWantPlains
import Derived.Test.YtomceddfbfpjjaaGreatDoorKMirrorUp
import Derived.Test.YtomceddfbfpjjaaGreatDoorKNetUp
import Derived.Test.YtomceddfbfpjjaaGreatDoorKTreePlains
import Derived.Test.YtomceddfbfpjjaaGreatDoorKTreeLoops
import Derived.Test.YtomceddfbfpjjaaGreatDoorKRightPlains
namespace Go.Proofs.YtomceddfbfpjjaaGreatDoor
open Go

/-- One way: what comes, if it is right. -/
def wayOne (n : NetB) (u : List UInt8) (w : WantB) : Nat × List FileB × NetB :=
  if (getN n ⟨u.toArray⟩).2.1 ≠ 0 then ((getN n ⟨u.toArray⟩).2.1, [], (getN n ⟨u.toArray⟩).2.2)
  else ((rightW w ⟨(getN n ⟨u.toArray⟩).1.toArray⟩).1, (rightW w ⟨(getN n ⟨u.toArray⟩).1.toArray⟩).2, (getN n ⟨u.toArray⟩).2.2)
def okLine (u : List UInt8) : List UInt8 := u ++ [32, 111, 107]
def badLine (u : List UInt8) (c : Nat) : List UInt8 := u ++ 32 :: errTx c
/-- All ways: the number of what is wrong, files, lines, the net behind it. -/
def tryGo (w : WantB) : NetB → List (List UInt8) → List (List UInt8) → Nat → Nat × List FileB × List (List UInt8) × NetB
  | n, [], lines, last => (last, [], lines, n)
  | n, u :: us, lines, _ =>
    if (wayOne n u w).1 = 0 then (0, (wayOne n u w).2.1, lines ++ [okLine u], (wayOne n u w).2.2)
    else tryGo w (wayOne n u w).2.2 us (lines ++ [badLine u (wayOne n u w).1]) (wayOne n u w).1
/-- Rules, and what is wanted: what is wrong with them. -/
def askE (l : List RuleL) (w : WantB) : Er := if (rulesEr l).code ≠ 0 then rulesEr l else ⟨wantE w, none⟩
/-- Try by all ways: a fault, files, lines, the net behind it. -/
def tryF (n : NetB) (l : List RuleL) (w : WantB) : Er × List FileB × List (List UInt8) × NetB :=
  if (askE l w).code ≠ 0 then (askE l w, [], [], n)
  else (⟨(tryGo w n (waysOut l (bl w.url)) [] 0).1, none⟩, (tryGo w n (waysOut l (bl w.url)) [] 0).2)
def heldLine : List UInt8 := [104, 101, 108, 100]
/-- Fetch: a fault, files, lines, what is held, and the net, behind it. -/
def fetchF (h : HeldB) (n : NetB) (l : List RuleL) (w : WantB) : Er × List FileB × List (List UInt8) × HeldB × NetB :=
  if (askE l w).code ≠ 0 then (askE l w, [], [], h, n)
  else match getL h.trees w.sum with
    | some t => (⟨0, none⟩, t, [heldLine], h, n)
    | none => ((tryF n l w).1, (tryF n l w).2.1, (tryF n l w).2.2.1, if (tryF n l w).1.code = 0 then (putH h (tryF n l w).2.1).2.2 else h, (tryF n l w).2.2.2)
theorem rightW_fine {w : WantB} {s : ByteArray} (h : (rightW w s).1 = 0) : (treeEr (rightW w s).2).code = 0 ∧ treeSum (rightW w s).2 = w.sum := by
  unfold rightW at h ⊢
  split at h
  · rename_i h1; exact absurd h h1
  rename_i h1
  rw [if_neg h1]
  split at h
  · cases h
  rename_i h2
  rw [if_neg h2]
  exact ⟨(treeOk_iff _).2 (openW_ok (by simpa using h1)), by simpa using h2⟩
theorem wayOne_fine {n : NetB} {u : List UInt8} {w : WantB} (h : (wayOne n u w).1 = 0) : (treeEr (wayOne n u w).2.1).code = 0 ∧ treeSum (wayOne n u w).2.1 = w.sum := by
  unfold wayOne at h ⊢
  split at h
  · rename_i h1; exact absurd h h1
  · rename_i h1
    rw [if_neg h1]
    exact rightW_fine h
theorem tryGo_good (w : WantB) : ∀ (us : List (List UInt8)) (n : NetB) (lines : List (List UInt8)) (last : Nat), (last ≠ 0 ∨ us ≠ []) → (tryGo w n us lines last).1 = 0 → (treeEr (tryGo w n us lines last).2.1).code = 0 ∧ treeSum (tryGo w n us lines last).2.1 = w.sum ∧ (tryGo w n us lines last).2.2.1 ≠ []
  | [], n, lines, last, h, h0 => by
    rcases h with h | h
    · exact absurd h0 h
    · exact absurd rfl h
  | u :: us, n, lines, last, h, h0 => by
    unfold tryGo at h0 ⊢
    by_cases h1 : (wayOne n u w).1 = 0
    · rw [if_pos h1]
      obtain ⟨a, b⟩ := wayOne_fine h1
      exact ⟨a, b, by simp⟩
    · rw [if_neg h1] at h0 ⊢
      exact tryGo_good w us _ _ _ (.inl h1) h0
theorem tryGo_bad (w : WantB) : ∀ (us : List (List UInt8)) (n : NetB) (lines : List (List UInt8)) (last : Nat), (tryGo w n us lines last).1 ≠ 0 → (tryGo w n us lines last).2.1 = []
  | [], n, lines, last, _ => rfl
  | u :: us, n, lines, last, h0 => by
    unfold tryGo at h0 ⊢
    by_cases h1 : (wayOne n u w).1 = 0
    · rw [if_pos h1] at h0; exact absurd rfl h0
    · rw [if_neg h1] at h0 ⊢
      exact tryGo_bad w us _ _ _ h0
theorem wayOne_le (n : NetB) (u : List UInt8) (w : WantB) (hr : ∀ s, (rightW w s).1 ≤ 13) : (wayOne n u w).1 ≤ 13 := by
  unfold wayOne
  split
  · unfold getN
    split
    · exact linkE_le _
    · split
      · exact Nat.le_of_ble_eq_true rfl
      · split <;> exact Nat.le_of_ble_eq_true rfl
  · exact hr _
theorem askE_zero {l : List RuleL} {w : WantB} (h : (askE l w).code = 0) : (rulesEr l).code = 0 ∧ wantE w = 0 := by
  unfold askE at h
  split at h
  · rename_i h1; exact absurd h h1
  · rename_i h1; exact ⟨by simpa using h1, h⟩
theorem waysOut_ne (l : List RuleL) (s : List UInt8) : waysOut l s ≠ [] := by
  unfold waysOut
  split
  · rename_i h; exact List.ne_nil_of_mem h
  · simp
/-- What is tried and comes is right; else nothing comes. -/
theorem tryF_fine {n : NetB} {l : List RuleL} {w : WantB} (h : (tryF n l w).1.code = 0) : (tryF n l w).1 = ⟨0, none⟩ ∧ (treeEr (tryF n l w).2.1).code = 0 ∧ treeSum (tryF n l w).2.1 = w.sum ∧ (tryF n l w).2.2.1 ≠ [] := by
  unfold tryF at h ⊢
  by_cases h1 : (askE l w).code ≠ 0
  · rw [if_pos h1] at h; exact absurd h h1
  · rw [if_neg h1] at h ⊢
    have h2 : (tryGo w n (waysOut l (bl w.url)) [] 0).1 = 0 := h
    obtain ⟨a, b, c⟩ := tryGo_good w _ n [] 0 (.inr (waysOut_ne l _)) h2
    exact ⟨by rw [h2], a, b, c⟩
theorem tryF_bad {n : NetB} {l : List RuleL} {w : WantB} (h : (tryF n l w).1.code ≠ 0) : (tryF n l w).2.1 = [] := by
  unfold tryF at h ⊢
  by_cases h1 : (askE l w).code ≠ 0
  · rw [if_pos h1]
  · rw [if_neg h1] at h ⊢
    exact tryGo_bad w _ n [] 0 h
end Go.Proofs.YtomceddfbfpjjaaGreatDoor

namespace Go.Proofs.YtomceddfbfpjjaaGreatDoor
open Go

theorem lcutEq {l sep : List UInt8} (h : (Lib.cut l sep).2.2 = true) : l = (Lib.cut l sep).1 ++ (sep ++ (Lib.cut l sep).2.1) := by
  rcases Lib.index_spec l sep with ⟨h1, _⟩ | ⟨i, h1, _, h3, _⟩
  · unfold Lib.cut at h; rw [h1] at h; simp at h
  · obtain ⟨r, hr⟩ := List.isPrefixOf_iff_prefix.1 h3
    have e : Lib.cut l sep = (l.take i, l.drop (i + sep.length), true) := by
      unfold Lib.cut
      rw [h1, if_pos (by omega)]
      simp
    rw [e]
    show l = l.take i ++ (sep ++ l.drop (i + sep.length))
    have : l.drop (i + sep.length) = r := by rw [← List.drop_drop, ← hr, List.drop_left]
    rw [this, hr, List.take_append_drop]
theorem lpartLen {x : List UInt8} (h : partB x = true) : x.length ≤ 12 := by
  unfold partB at h
  simp only [Bool.and_eq_true, decide_eq_true_eq] at h
  exact h.1.1.1.2
theorem lpartsLen : ∀ w : List (List UInt8), w.all partB = true → ([47].intercalate w : List UInt8).length ≤ w.length * 13
  | [], _ => by simp [List.intercalate]
  | [x], h => by
    rw [List.all_cons, Bool.and_eq_true] at h
    have := lpartLen h.1
    simp [List.intercalate]; omega
  | x :: y :: r, h => by
    rw [List.all_cons, Bool.and_eq_true] at h
    have := lpartLen h.1
    have ih := lpartsLen (y :: r) h.2
    rw [join_cons, List.length_append, List.length_cons]
    simp only [List.length_cons] at ih ⊢; omega
/-- A link is short. -/
theorem link_short {l : List UInt8} (h : linkE l = 0) : l.length ≤ 200 := by
  unfold linkE at h
  by_cases h0 : lkE l = 0
  · rw [if_pos h0] at h
    obtain ⟨p1, p2⟩ := partsE_ok h
    have lp : (lkP l).length ≤ 78 := by
      have := lpartsLen _ p1
      rw [cutL_join] at this
      omega
    unfold lkE at h0
    split at h0
    · cases h0
    · rename_i c1
      split at h0
      · cases h0
      · rename_i c2
        split at h0
        · cases h0
        · rename_i c3
          have e1 : lkIs l = true := by cases hq : lkIs l; simp [hq] at c1; rfl
          have e2 : lkAlso l = true := by cases hq : lkAlso l; simp [hq] at c1; rfl
          have e3 : kinds.contains (lkK l) = true := by simpa using c2
          have e4 : partB (lkH l) = true := by simpa using c3
          have l1 := congrArg List.length (lcutEq e1)
          have l2 := congrArg List.length (lcutEq e2)
          rw [List.length_append, List.length_append] at l1 l2
          have k4 : (lkK l).length ≤ 4 := by
            have := List.contains_iff_mem.1 e3
            unfold kinds at this
            simp only [List.mem_cons, List.not_mem_nil, or_false] at this
            rcases this with h | h | h <;> rw [h] <;> decide
          have k5 := lpartLen e4
          have k6 : sepL.length = 3 := rfl
          have k7 : ([47] : List UInt8).length = 1 := rfl
          unfold lkK at k4
          unfold lkP at lp
          unfold lkH at k5
          unfold lkR at *
          omega
  · rw [if_neg h0] at h; exact absurd h h0
end Go.Proofs.YtomceddfbfpjjaaGreatDoor

namespace Go.Proofs.YtomceddfbfpjjaaGreatDoor
open Go

theorem filesE_le : ∀ (l : List FileB) (ahead : List FileB) (i : Nat) {p : Nat × Nat}, filesE ahead i l = some p → p.2 ≤ 13
  | [], _, _, p, h => by cases h
  | f :: l, ahead, i, p, h => by
    unfold filesE at h
    split at h
    · exact filesE_le l _ _ h
    · obtain rfl := Option.some.inj h
      exact fileE_le _ _
theorem treeEr_le (l : List FileB) : (treeEr l).code ≤ 13 := by
  unfold treeEr
  split
  · exact Nat.le_of_ble_eq_true rfl
  · cases h : filesE [] 0 l with
    | none => dsimp only; split <;> exact Nat.le_of_ble_eq_true rfl
    | some p => exact filesE_le l _ _ h
theorem readEr_le (s : List UInt8) : (readEr s).code ≤ 13 := by
  unfold readEr
  split
  · exact Nat.le_of_ble_eq_true rfl
  · split
    · exact treeEr_le _
    · exact Nat.le_of_ble_eq_true rfl
theorem sortT_le (l : List FileB) : (sortT l).1.code ≤ 13 := by
  unfold sortT
  split
  · exact Nat.le_of_ble_eq_true rfl
  · split
    · exact treeEr_le _
    · exact Nat.le_of_ble_eq_true rfl
theorem stripTr_le (l : List FileB) (n : Int) : (stripTr l n).1.code ≤ 13 := by
  unfold stripTr
  split
  · exact treeEr_le _
  · cases stripIx n l with
    | none => exact sortT_le _
    | some i => exact stripE_le13 _ _
theorem unpackT_le (s : List UInt8) (n : Int) : (unpackT s n).1 ≤ 13 := by
  unfold unpackT
  split
  · exact readEr_le _
  · exact stripTr_le _ _
theorem openE_le (r : List (Nat × UInt8) × Option Nat) (most : Int) : (openE r most).code ≤ 13 := by
  unfold openE
  split
  · split <;> exact Nat.le_of_ble_eq_true rfl
  · exact Nat.le_of_ble_eq_true rfl
theorem openW_le (x : WantB) (s : ByteArray) : (openW x s).1 ≤ 13 := by
  unfold openW
  split
  · exact wantE_le x
  · split
    · exact Nat.le_of_ble_eq_true rfl
    · split
      · exact unpackT_le _ _
      · split
        · split
          · exact openE_le _ _
          · exact unpackT_le _ _
        · split
          · exact treeEr_le _
          · exact Nat.zero_le _
theorem rightW_le (x : WantB) (s : ByteArray) : (rightW x s).1 ≤ 13 := by
  unfold rightW
  split
  · exact openW_le x s
  · split <;> exact Nat.le_of_ble_eq_true rfl
end Go.Proofs.YtomceddfbfpjjaaGreatDoor

namespace Go.Proofs.YtomceddfbfpjjaaGreatDoor
open Go

/-- One way at a text. -/
def wayB (n : NetB) (u : ByteArray) (w : WantB) : Nat × List FileB × NetB :=
  if (getN n u).2.1 ≠ 0 then ((getN n u).2.1, [], (getN n u).2.2)
  else ((rightW w ⟨(getN n u).1.toArray⟩).1, (rightW w ⟨(getN n u).1.toArray⟩).2, (getN n u).2.2)
theorem wayOne_bl (n : NetB) (u : ByteArray) (w : WantB) : wayOne n (bl u) w = wayB n u w := by
  unfold wayOne wayB
  rw [mk_bl]
theorem tryGo_ok {w : WantB} {n : NetB} {u : List UInt8} {us lines : List (List UInt8)} {last : Nat} (h : (wayOne n u w).1 = 0) : tryGo w n (u :: us) lines last = (0, (wayOne n u w).2.1, lines ++ [okLine u], (wayOne n u w).2.2) := by
  rw [tryGo, if_pos h]
theorem tryGo_no {w : WantB} {n : NetB} {u : List UInt8} {us lines : List (List UInt8)} {last : Nat} (h : (wayOne n u w).1 ≠ 0) : tryGo w n (u :: us) lines last = tryGo w (wayOne n u w).2.2 us (lines ++ [badLine u (wayOne n u w).1]) (wayOne n u w).1 := by
  rw [tryGo, if_neg h]
theorem getN_len {n : NetB} {u : ByteArray} (h : NetOk n) : (getN n u).1.length ≤ 20000 := by
  unfold getN
  split
  · exact Nat.zero_le _
  · split
    · exact Nat.zero_le _
    · split
      · exact Nat.zero_le _
      · rename_i x hx
        obtain ⟨_, h2⟩ := siteAt_url hx
        have h3 := (h.small x h2).2.1
        show (cutText x.text x.cut).length ≤ _
        unfold cutText
        split
        · rw [List.length_take, bl_length]; omega
        · rw [bl_length]; omega
theorem getN_calls (n : NetB) (u : ByteArray) : (getN n u).2.2.calls ≤ n.calls + 1 := by
  unfold getN
  split
  · exact Nat.le_succ _
  · split
    · exact Nat.le_refl _
    · split <;> exact Nat.le_refl _
theorem getN_off (n : NetB) (u : ByteArray) : (getN n u).2.2.off = n.off := by
  unfold getN
  split
  · rfl
  · split
    · rfl
    · split <;> rfl
theorem tryGo_off (w : WantB) : ∀ (us : List (List UInt8)) (n : NetB) (lines : List (List UInt8)) (last : Nat), (tryGo w n us lines last).2.2.2.off = n.off
  | [], n, lines, last => rfl
  | u :: us, n, lines, last => by
    have h0 : (wayOne n u w).2.2.off = n.off := by
      unfold wayOne
      split <;> exact getN_off _ _
    rw [tryGo]
    split
    · exact h0
    · rw [tryGo_off w us, h0]
theorem tryF_off (n : NetB) (l : List RuleL) (w : WantB) : (tryF n l w).2.2.2.off = n.off := by
  unfold tryF
  split
  · rfl
  · exact tryGo_off _ _ _ _ _
theorem fetchF_off (h : HeldB) (n : NetB) (l : List RuleL) (w : WantB) : (fetchF h n l w).2.2.2.2.off = n.off := by
  unfold fetchF
  split
  · rfl
  · split
    · rfl
    · exact tryF_off _ _ _
theorem waysOut_short {l : List RuleL} {s : List UInt8} (hs : linkE s = 0) : ∀ x ∈ waysOut l s, x.length ≤ 200 := fun x hx => link_short ((waysOut_ok hs).1 x hx)
theorem askE_no {l : List RuleL} {w : WantB} (h : (rulesEr l).code ≠ 0) : askE l w = rulesEr l := by unfold askE; rw [if_pos h]
theorem askE_from {l : List RuleL} {w : WantB} (h : (rulesEr l).code = 0) : askE l w = ⟨wantE w, none⟩ := by unfold askE; rw [if_neg (by omega)]
theorem tryF_ask {n : NetB} {l : List RuleL} {w : WantB} (h : (askE l w).code ≠ 0) : tryF n l w = (askE l w, [], [], n) := by unfold tryF; rw [if_pos h]
theorem tryF_from {n : NetB} {l : List RuleL} {w : WantB} (h : (askE l w).code = 0) : tryF n l w = (⟨(tryGo w n (waysOut l (bl w.url)) [] 0).1, none⟩, (tryGo w n (waysOut l (bl w.url)) [] 0).2) := by unfold tryF; rw [if_neg (by omega)]
theorem fetchF_ask {h : HeldB} {n : NetB} {l : List RuleL} {w : WantB} (h0 : (askE l w).code ≠ 0) : fetchF h n l w = (askE l w, [], [], h, n) := by unfold fetchF; rw [if_pos h0]
theorem fetchF_held {h : HeldB} {n : NetB} {l : List RuleL} {w : WantB} {t : List FileB} (h0 : (askE l w).code = 0) (h1 : getL h.trees w.sum = some t) : fetchF h n l w = (⟨0, none⟩, t, [heldLine], h, n) := by unfold fetchF; rw [if_neg (by omega), h1]
theorem fetchF_from {h : HeldB} {n : NetB} {l : List RuleL} {w : WantB} (h0 : (askE l w).code = 0) (h1 : getL h.trees w.sum = none) : fetchF h n l w = ((tryF n l w).1, (tryF n l w).2.1, (tryF n l w).2.2.1, if (tryF n l w).1.code = 0 then (putH h (tryF n l w).2.1).2.2 else h, (tryF n l w).2.2.2) := by unfold fetchF; rw [if_neg (by omega), h1]
theorem askE_want {l : List RuleL} {w : WantB} (h : (askE l w).code = 0) : WantOk w := wantE_zero (askE_zero h).2
theorem tryF_few {n : NetB} {l : List RuleL} {w : WantB} : (treeEr (tryF n l w).2.1).code = 0 := by
  by_cases h : (tryF n l w).1.code = 0
  · exact (tryF_fine h).2.1
  · rw [tryF_bad h]; rfl
end Go.Proofs.YtomceddfbfpjjaaGreatDoor

namespace Go.Proofs.YtomceddfbfpjjaaGreatDoor
open Go

def urlHx : ByteArray := ⟨#[104, 116, 116, 112, 58, 47, 47, 104, 47, 120]⟩
def hiB : ByteArray := ⟨#[104, 105]⟩
def okHx : ByteArray := ⟨#[104, 116, 116, 112, 58, 47, 47, 104, 47, 120, 32, 111, 107]⟩
def fetT : List FileB := [⟨⟨#[97]⟩, false, hiB⟩]
def fetW : WantB := ⟨⟨#[97]⟩, urlHx, ⟨#[112, 108, 97, 105, 110]⟩, 0, treeSum fetT⟩
def fetN : NetB := ⟨[⟨urlHx, hiB, -1⟩], [], 0⟩
theorem hx_link : linkE (bl urlHx) = 0 := by decide
theorem put_hx : putN ⟨[], [], 0⟩ urlHx hiB = (0, fetN) := by
  unfold putN
  rw [show linkE (bl urlHx) = 0 by decide]
  rfl
theorem fetW_ok : WantOk fetW := ⟨by decide, hx_link, by decide, ⟨by decide, by decide⟩, fun _ => rfl, treeSum_right fetT⟩
theorem fetW_fine : wantE fetW = 0 := wantE_of fetW_ok
theorem fet_ask : (askE [] fetW).code = 0 := by
  rw [askE_from (l := []) (w := fetW) rfl]
  rw [fetW_fine]
theorem ways_none (s : List UInt8) : waysOut [] s = [s] := by
  unfold waysOut
  rw [show waysR s (pickR s none []) = [] from rfl, if_neg (by simp)]
  rfl
theorem fet_ways : waysOut [] (bl fetW.url) = [bl urlHx] := ways_none _
theorem get_hx : getN fetN urlHx = (bl hiB, 0, { fetN with calls := 1 }) := by
  unfold getN
  rw [hx_link, if_neg (by decide), if_neg (by decide)]
  rfl
theorem fetT_code : (treeEr fetT).code = 0 := by decide +kernel
theorem fetT_er : treeEr fetT = ⟨0, none⟩ := (treeEr_zero fetT_code).1
theorem fet_open : openW fetW hiB = (0, fetT) := by
  unfold openW
  rw [if_neg (by rw [fetW_fine]; simp), if_neg (by decide), if_neg (by decide), if_neg (by decide)]
  show (if (treeEr fetT).code ≠ 0 then _ else _) = _
  rw [fetT_er]
  rfl
theorem fet_right : rightW fetW hiB = (0, fetT) := by
  unfold rightW
  rw [fet_open, if_neg (by simp), if_neg (by simp [fetW])]
theorem fet_way : wayOne fetN (bl urlHx) fetW = (0, fetT, { fetN with calls := 1 }) := by
  rw [wayOne_bl]
  unfold wayB
  rw [get_hx, if_neg (by simp), mk_bl, fet_right]
theorem fet_try : tryF fetN [] fetW = (⟨0, none⟩, fetT, [okLine (bl urlHx)], { fetN with calls := 1 }) := by
  rw [tryF_from fet_ask, fet_ways, tryGo_ok (by rw [fet_way]), fet_way]
  rfl
theorem fet_fetch : (fetchF (newH 3) fetN [] fetW).1 = ⟨0, none⟩ ∧ (fetchF (newH 3) fetN [] fetW).2.1 = fetT ∧ (fetchF (newH 3) fetN [] fetW).2.2.1 = [bl okHx] := by
  rw [fetchF_from fet_ask rfl, fet_try]
  exact ⟨rfl, rfl, rfl⟩
end Go.Proofs.YtomceddfbfpjjaaGreatDoor
