/- Plain: paths and links as lists of bytes. No program in sight. -/
import Derived.Test.YtpafddeakanopaaGreatDoorPlain
import Derived.Lib.SplitLaws
import Derived.Lib.CutLaws
import Derived.Lib.SlTrimSet
import Derived.Lib.LastIndexLaws
import Derived.Lib.IndexLaws
namespace Go.Proofs.YtpafddeakanopaaGreatDoor
open Go

/-! cut at each byte c -/
def cutGo (c : UInt8) : List UInt8 → List UInt8 → List (List UInt8)
  | cur, [] => [cur]
  | cur, b :: l => if b = c then cur :: cutGo c [] l else cutGo c (cur ++ [b]) l
def cutL (c : UInt8) (l : List UInt8) : List (List UInt8) := cutGo c [] l

theorem cutGo_no (c : UInt8) : ∀ (l cur : List UInt8), c ∉ l → cutGo c cur l = [cur ++ l]
  | [], cur, _ => by simp [cutGo]
  | b :: l, cur, h => by
    have hb : b ≠ c := fun e => h (by simp [e])
    rw [cutGo, if_neg hb, cutGo_no c l _ (fun e => h (List.mem_cons_of_mem _ e))]
    simp
theorem cutGo_app (c : UInt8) (r : List UInt8) : ∀ (l cur : List UInt8), cutGo c cur (l ++ c :: r) = cutGo c cur l ++ cutGo c [] r
  | [], cur => by simp [cutGo]
  | b :: l, cur => by
    rw [List.cons_append, cutGo, cutGo]
    split
    · rw [cutGo_app c r l]; simp
    · exact cutGo_app c r l _
theorem cutL_no {c : UInt8} {l : List UInt8} (h : c ∉ l) : cutL c l = [l] := by rw [cutL, cutGo_no c l [] h]; rfl
theorem cutL_app (c : UInt8) (l r : List UInt8) : cutL c (l ++ c :: r) = cutL c l ++ cutL c r := cutGo_app c r l []
theorem cutGo_ne (c : UInt8) : ∀ (l cur : List UInt8), cutGo c cur l ≠ []
  | [], _ => by simp [cutGo]
  | b :: l, cur => by
    rw [cutGo]; split
    · simp
    · exact cutGo_ne c l _
theorem cutL_ne (c : UInt8) (l : List UInt8) : cutL c l ≠ [] := cutGo_ne c l []
theorem cutGo_len (c : UInt8) : ∀ (l cur : List UInt8), (cutGo c cur l).length = l.count c + 1
  | [], _ => rfl
  | b :: l, cur => by
    rw [cutGo]; split
    · rename_i h; subst h; rw [List.length_cons, cutGo_len]; simp
    · rename_i h; rw [cutGo_len, List.count_cons_of_ne (by simpa using h)]
theorem cutL_len (c : UInt8) (l : List UInt8) : (cutL c l).length = l.count c + 1 := cutGo_len c l []

theorem index_byte_none {c : UInt8} : ∀ {l : List UInt8}, Lib.index l [c] = -1 → c ∉ l
  | [], _ => by simp
  | b :: l, h => by
    rw [Lib.index] at h
    split at h
    · omega
    · rename_i hp
      have hne : b ≠ c := fun e => hp (by simp [List.isPrefixOf, e])
      have hge := Lib.index_ge l [c]
      have h2 : Lib.index l [c] = -1 := by
        split at h
        · rename_i h2; exact beq_iff_eq.1 h2
        · omega
      intro hm
      rcases List.mem_cons.1 hm with e | e
      · exact hne e.symm
      · exact index_byte_none h2 e
theorem index_byte_hit {c : UInt8} : ∀ {l : List UInt8} {i : Nat}, Lib.index l [c] = i → c ∉ l.take i ∧ i < l.length ∧ l = l.take i ++ c :: l.drop (i + 1)
  | [], i, h => by
    have : Lib.index [] [c] = -1 := by simp [Lib.index]
    omega
  | b :: l, i, h => by
    rw [Lib.index] at h
    split at h
    · rename_i hp
      have hbc : c = b := by simpa [List.isPrefixOf] using hp
      subst hbc
      obtain rfl : i = 0 := by omega
      simp
    · rename_i hp
      have hne : b ≠ c := fun e => hp (by simp [List.isPrefixOf, e])
      have hge := Lib.index_ge l [c]
      split at h
      · omega
      · obtain ⟨j, rfl⟩ : ∃ j, i = j + 1 := ⟨i - 1, by rename_i h2; have : Lib.index l [c] ≠ -1 := fun e => h2 (beq_iff_eq.2 e); omega⟩
        obtain ⟨h1, h2, h3⟩ := index_byte_hit (c := c) (l := l) (i := j) (by omega)
        refine ⟨?_, ?_, ?_⟩
        · rw [List.take_succ_cons]
          intro hm
          rcases List.mem_cons.1 hm with e | e
          · exact hne e.symm
          · exact h1 e
        · simp; omega
        · conv => lhs; rw [h3]
          simp

theorem splitK_cut (c : UInt8) : ∀ (k : Nat) (l : List UInt8), Lib.count l [c] = k → Lib.splitK [c] 0 k l = cutL c l
  | 0, l, hk => by
    have : c ∉ l := by rw [Lib.count_one] at hk; exact List.count_eq_zero.1 hk
    rw [cutL_no this]; rfl
  | k + 1, l, hk => by
    have hge := Lib.index_ge l [c]
    by_cases hm : Lib.index l [c] = -1
    · rw [Lib.count_miss hm] at hk; omega
    · obtain ⟨i, hi⟩ : ∃ i : Nat, Lib.index l [c] = i := ⟨(Lib.index l [c]).toNat, by omega⟩
      obtain ⟨h1, h2, h3⟩ := index_byte_hit hi
      have hk2 := Lib.count_hit (by simp) hi
      rw [hk] at hk2
      simp only [List.length_cons, List.length_nil, Nat.zero_add] at hk2
      have ih := splitK_cut c k (l.drop (i + 1)) (by omega)
      unfold Lib.splitK
      rw [if_neg (fun e => hm (beq_iff_eq.1 e)), hi]
      show l.take (i + 0) :: Lib.splitK [c] 0 k (l.drop (i + 1)) = _
      rw [ih, Nat.add_zero]
      conv => rhs; rw [h3]
      rw [cutL_app, cutL_no h1]; rfl
theorem splitB_cut (s : ByteArray) (c : UInt8) : (Lib.splitB ⟨#[c]⟩ 0 (Lib.countB s ⟨#[c]⟩) s).map bl = cutL c (bl s) := by
  have h := Lib.splitB_data ⟨#[c]⟩ 0 (Lib.countB s ⟨#[c]⟩) s
  exact h.trans (splitK_cut c _ _ rfl)

/-- The pieces and c between them are the text. -/
theorem cutGo_join (c : UInt8) : ∀ (l cur : List UInt8), [c].intercalate (cutGo c cur l) = cur ++ l
  | [], cur => by simp [cutGo, List.intercalate]
  | b :: l, cur => by
    rw [cutGo]; split
    · rename_i h; subst h
      have ih := cutGo_join b l []
      have hne := cutGo_ne b l []
      cases hc : cutGo b [] l with
      | nil => exact absurd hc hne
      | cons x r =>
        rw [hc] at ih
        have : [b].intercalate (cur :: x :: r) = cur ++ b :: [b].intercalate (x :: r) := by
          simp [List.intercalate, List.intersperse]
        rw [this, ih]; simp
    · rw [cutGo_join c l]; simp
theorem cutL_join (c : UInt8) (l : List UInt8) : [c].intercalate (cutL c l) = l := by rw [cutL, cutGo_join]; rfl
theorem join_cons (c : UInt8) (x y : List UInt8) (r : List (List UInt8)) : [c].intercalate (x :: y :: r) = x ++ c :: [c].intercalate (y :: r) := by
  simp [List.intercalate, List.intersperse]
theorem cut_join (c : UInt8) : ∀ (w : List (List UInt8)), w ≠ [] → (∀ x ∈ w, c ∉ x) → cutL c ([c].intercalate w) = w
  | [], h, _ => absurd rfl h
  | [x], _, hx => by
    have : [c].intercalate [x] = x := by simp [List.intercalate, List.intersperse]
    rw [this, cutL_no (hx x (by simp))]
  | x :: y :: r, _, hx => by
    rw [join_cons, cutL_app, cutL_no (hx x (by simp)), cut_join c (y :: r) (by simp) (fun z hz => hx z (List.mem_cons_of_mem _ hz))]
    rfl
theorem cutGo_free (c : UInt8) : ∀ (l cur : List UInt8), c ∉ cur → ∀ x ∈ cutGo c cur l, c ∉ x
  | [], cur, h, x, hx => by rw [cutGo, List.mem_singleton] at hx; subst hx; exact h
  | b :: l, cur, h, x, hx => by
    rw [cutGo] at hx; split at hx
    · rcases List.mem_cons.1 hx with e | e
      · subst e; exact h
      · exact cutGo_free c l [] (by simp) x e
    · rename_i hb
      refine cutGo_free c l (cur ++ [b]) ?_ x hx
      simp only [List.mem_append, List.mem_singleton, not_or]
      exact ⟨h, fun e => hb e.symm⟩
theorem cutL_free (c : UInt8) (l x : List UInt8) (h : x ∈ cutL c l) : c ∉ x := cutGo_free c l [] (by simp) x h

theorem cutGo_size (c : UInt8) : ∀ (l cur : List UInt8), ∀ x ∈ cutGo c cur l, x.length ≤ cur.length + l.length
  | [], cur, x, hx => by rw [cutGo, List.mem_singleton] at hx; subst hx; simp
  | b :: l, cur, x, hx => by
    rw [cutGo] at hx; split at hx
    · rcases List.mem_cons.1 hx with e | e
      · subst e; omega
      · have := cutGo_size c l [] x e; simp only [List.length_nil, List.length_cons] at *; omega
    · have := cutGo_size c l _ x hx; simp only [List.length_append, List.length_cons, List.length_nil] at *; omega
theorem cutL_size (c : UInt8) (l x : List UInt8) (h : x ∈ cutL c l) : x.length ≤ l.length := by have := cutGo_size c l [] x h; simpa using this

/-! a part of a path; paths -/
def lets : List UInt8 := [97, 98, 99, 100, 101, 102, 103, 104, 105, 106, 107, 108, 109, 110, 111, 112, 113, 114, 115, 116, 117, 118, 119, 120, 121, 122, 48, 49, 50, 51, 52, 53, 54, 55, 56, 57, 46, 95, 45]
def okB (c : UInt8) : Bool := lets.contains c
def partB (l : List UInt8) : Bool := (!(l == [])) && decide (l.length ≤ 12) && (!(l == [46])) && (!(l == [46, 46])) && l.all okB

theorem dropWhile_nil {p : UInt8 → Bool} : ∀ l : List UInt8, l.dropWhile p = [] ↔ l.all p = true
  | [] => by simp
  | b :: l => by
    cases h : p b with
    | true => rw [List.dropWhile_cons_of_pos h, dropWhile_nil l]; simp [h]
    | false => rw [List.dropWhile_cons_of_neg (by simp [h])]; simp [h]
theorem trimS_nil (l : List UInt8) : Lib.trimS l lets = [] ↔ l.all okB = true := by
  have e : Lib.trimRightS l lets = [] ↔ l.all okB = true := by
    unfold Lib.trimRightS
    rw [List.reverse_eq_nil_iff, dropWhile_nil, List.all_reverse]; rfl
  have hs : ∀ x ∈ Lib.trimRightS l lets, x ∈ l := by
    intro x hx
    unfold Lib.trimRightS at hx
    rw [List.mem_reverse] at hx
    exact List.mem_reverse.1 ((List.dropWhile_suffix _).subset hx)
  unfold Lib.trimS Lib.trimLeftS
  rw [dropWhile_nil]
  constructor
  · intro h
    -- what is trimmed on the right and is all letters is nothing
    by_cases h2 : Lib.trimRightS l lets = []
    · exact e.1 h2
    · exfalso
      unfold Lib.trimRightS at h h2
      rw [List.all_reverse] at h
      have h3 : (l.reverse.dropWhile (lets.contains ·)) ≠ [] := fun q => h2 (by rw [q]; rfl)
      have h4 := List.head_dropWhile_not (lets.contains ·) h3
      have h5 := List.all_eq_true.1 h _ (List.head_mem h3)
      rw [h4] at h5
      cases h5
  · intro h
    exact List.all_eq_true.2 fun x hx => List.all_eq_true.1 h x (hs x hx)

/-- The parts of a path: 0, or the error's number. -/
def partsE (s : List UInt8) : Nat := if (cutL 47 s).all partB then (if 6 < (cutL 47 s).length then 8 else 0) else 5
theorem partsE_le (s : List UInt8) : partsE s ≤ 13 := by unfold partsE; split <;> (try split) <;> decide
theorem partsE_ok {s : List UInt8} (h : partsE s = 0) : (cutL 47 s).all partB = true ∧ (cutL 47 s).length ≤ 6 := by
  unfold partsE at h
  split at h
  · rename_i h1; split at h
    · cases h
    · exact ⟨h1, by omega⟩
  · cases h
theorem partsE_nil : partsE [] = 5 := by decide
theorem partsE_slash (p : List UInt8) : partsE (p ++ [47]) = 5 := by
  unfold partsE
  rw [if_neg]
  rw [show p ++ [47] = p ++ 47 :: [] from rfl, cutL_app, List.all_append]
  have : (cutL 47 []).all partB = false := by decide
  rw [this]; simp

/-! links -/
def sepL : List UInt8 := [58, 47, 47]
def lkK (s : List UInt8) : List UInt8 := (Lib.cut s sepL).1
def lkR (s : List UInt8) : List UInt8 := (Lib.cut s sepL).2.1
def lkIs (s : List UInt8) : Bool := (Lib.cut s sepL).2.2
def lkH (s : List UInt8) : List UInt8 := (Lib.cut (lkR s) [47]).1
def lkP (s : List UInt8) : List UInt8 := (Lib.cut (lkR s) [47]).2.1
def lkAlso (s : List UInt8) : Bool := (Lib.cut (lkR s) [47]).2.2
def kinds : List (List UInt8) := [[104, 116, 116, 112], [102, 116, 112], [102, 105, 108, 101]]
def lkE (s : List UInt8) : Nat := if (!lkIs s) || (!lkAlso s) then 1 else if !(kinds.contains (lkK s)) then 4 else if !(partB (lkH s)) then 5 else 0
def linkE (s : List UInt8) : Nat := if lkE s = 0 then partsE (lkP s) else lkE s
def beginE (s : List UInt8) : Nat := if lkE s = 0 then (if Lib.trimSuffix (lkP s) [47] = [] then 0 else partsE (Lib.trimSuffix (lkP s) [47])) else lkE s
theorem lkE_le (s : List UInt8) : lkE s ≤ 13 := by unfold lkE; split <;> (try split) <;> (try split) <;> decide
theorem linkE_le (s : List UInt8) : linkE s ≤ 13 := by unfold linkE; split; exact partsE_le _; exact lkE_le _
theorem beginE_le (s : List UInt8) : beginE s ≤ 13 := by unfold beginE; split; split; decide; exact partsE_le _; exact lkE_le _

def swapX (f t s : List UInt8) : List UInt8 := t ++ s.drop f.length
def swapE (f t s : List UInt8) : Nat :=
  if beginE f = 0 then if beginE t = 0 then if linkE s = 0 then if Lib.hasPrefix s f then linkE (swapX f t s) else 6 else linkE s else beginE t else beginE f
def swapT (f t s : List UInt8) : List UInt8 := if swapE f t s = 0 then swapX f t s else []
theorem swapE_le (f t s : List UInt8) : swapE f t s ≤ 13 := by
  unfold swapE
  split; split; split; split
  all_goals first | exact linkE_le _ | exact beginE_le _ | decide

theorem hasPrefix_app {s f : List UInt8} (h : Lib.hasPrefix s f = true) : s = f ++ s.drop f.length := by
  obtain ⟨r, rfl⟩ := List.isPrefixOf_iff_prefix.1 h
  simp
theorem hasPrefix_of (f r : List UInt8) : Lib.hasPrefix (f ++ r) f = true := List.isPrefixOf_iff_prefix.2 ⟨r, rfl⟩

theorem swapE_ok {f t s : List UInt8} (h : swapE f t s = 0) : beginE f = 0 ∧ beginE t = 0 ∧ linkE s = 0 ∧ Lib.hasPrefix s f = true ∧ linkE (swapX f t s) = 0 := by
  unfold swapE at h
  split at h
  · rename_i h1
    split at h
    · rename_i h2
      split at h
      · rename_i h3
        split at h
        · rename_i h4; exact ⟨h1, h2, h3, h4, h⟩
        · cases h
      · rename_i h3; exact absurd h h3
    · rename_i h2; exact absurd h h2
  · rename_i h1; exact absurd h h1
theorem swapE_zero {f t s : List UInt8} (h1 : beginE f = 0) (h2 : beginE t = 0) (h3 : linkE s = 0) (h4 : Lib.hasPrefix s f = true) (h5 : linkE (swapX f t s) = 0) : swapE f t s = 0 := by
  unfold swapE; rw [if_pos h1, if_pos h2, if_pos h3, if_pos h4, h5]

/-- A link begins itself. -/
theorem begin_of_link {s : List UInt8} (h : linkE s = 0) : beginE s = 0 := by
  unfold linkE at h
  split at h
  · rename_i h1
    have hns : Lib.hasSuffix (lkP s) [47] = false := by
      cases hq : Lib.hasSuffix (lkP s) [47] with
      | false => rfl
      | true =>
        obtain ⟨r, hr⟩ := List.isSuffixOf_iff_suffix.1 hq
        rw [← hr, partsE_slash] at h
        cases h
    have ht : Lib.trimSuffix (lkP s) [47] = lkP s := by unfold Lib.trimSuffix; rw [hns]; rfl
    unfold beginE
    rw [if_pos h1, ht, h]
    split <;> rfl
  · rename_i h1; exact absurd h h1
theorem swap_self {s : List UInt8} (h : linkE s = 0) : swapE s s s = 0 ∧ swapT s s s = s := by
  have e : swapX s s s = s := by unfold swapX; rw [List.drop_length, List.append_nil]
  have h0 : swapE s s s = 0 := swapE_zero (begin_of_link h) (begin_of_link h) h (by have := hasPrefix_of s []; rwa [List.append_nil] at this) (by rw [e]; exact h)
  exact ⟨h0, by unfold swapT; rw [if_pos h0, e]⟩
theorem swap_back {f t s : List UInt8} (h : swapE f t s = 0) : swapE t f (swapT f t s) = 0 ∧ swapT t f (swapT f t s) = s ∧ linkE (swapT f t s) = 0 ∧ Lib.hasPrefix (swapT f t s) t = true := by
  obtain ⟨h1, h2, h3, h4, h5⟩ := swapE_ok h
  have e : swapT f t s = swapX f t s := by unfold swapT; rw [if_pos h]
  have hp : Lib.hasPrefix (swapX f t s) t = true := hasPrefix_of _ _
  have e2 : swapX t f (swapX f t s) = s := by
    unfold swapX
    rw [List.drop_left]
    exact (hasPrefix_app h4).symm
  have h0 : swapE t f (swapX f t s) = 0 := swapE_zero h2 h1 h5 hp (by rw [e2]; exact h3)
  rw [e]
  refine ⟨h0, ?_, h5, hp⟩
  unfold swapT; rw [if_pos h0, e2]
theorem swapT_len (f t s : List UInt8) : (swapT f t s).length ≤ t.length + s.length := by
  unfold swapT swapX; split
  · rw [List.length_append, List.length_drop]; omega
  · simp
end Go.Proofs.YtpafddeakanopaaGreatDoor
