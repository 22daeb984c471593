/- Steps of a lock's check, and of its reading, in plain Lean. Differences of locks, in plain Lean. A difference, done one by one, is the other lock: in plain Lean. -/
import Derived.Test.YtgchgdkpipanjaaGreatDoorJWantPlains
namespace Go.Proofs.YtgchgdkpipanjaaGreatDoor
open Go

def prevW (l : List WantB) (k : Nat) : Option WantB := if k = 0 then none else l[k - 1]?
theorem lockGo_step {l : List WantB} {k : Nat} (hk : k < l.length) : lockGo (prevW l k) k (l.drop k) = if lockE (prevW l k) l[k] ≠ 0 then some (k, lockE (prevW l k) l[k]) else lockGo (prevW l (k + 1)) (k + 1) (l.drop (k + 1)) := by
  rw [List.drop_eq_getElem_cons hk]
  have h : prevW l (k + 1) = some l[k] := by
    unfold prevW
    rw [if_neg (by omega), show k + 1 - 1 = k by omega, List.getElem?_eq_getElem hk]
  rw [h]
  rfl
theorem lockEr_at {l : List WantB} {k c : Nat} (h20 : l.length ≤ 20) (hk : k < l.length) (hF : lockGo none 0 l = lockGo (prevW l k) k (l.drop k)) (hc : lockE (prevW l k) l[k] = c + 1) : lockEr l = ⟨c + 1, some (k : Int)⟩ := by
  have : lockGo none 0 l = some (k, c + 1) := by rw [hF, lockGo_step hk, if_pos (by omega), hc]
  unfold lockEr
  rw [if_neg (by omega), this]
theorem lockGo_next {l : List WantB} {k : Nat} (hk : k < l.length) (hF : lockGo none 0 l = lockGo (prevW l k) k (l.drop k)) (hc : lockE (prevW l k) l[k] = 0) : lockGo none 0 l = lockGo (prevW l (k + 1)) (k + 1) (l.drop (k + 1)) := by
  rw [hF, lockGo_step hk, if_neg (by omega)]
theorem lockEr_end {l : List WantB} (h20 : l.length ≤ 20) (hF : lockGo none 0 l = lockGo (prevW l l.length) l.length (l.drop l.length)) : lockEr l = ⟨0, none⟩ := by
  have : lockGo none 0 l = none := by rw [hF, List.drop_length]; rfl
  unfold lockEr
  rw [if_neg (by omega), this]
theorem lockEr_many {l : List WantB} (h : 20 < l.length) : lockEr l = ⟨8, none⟩ := by unfold lockEr; rw [if_pos h]
theorem lockE_want {l : List WantB} {k c : Nat} (hk : k < l.length) (h : wantE l[k] = c + 1) : lockE (prevW l k) l[k] = c + 1 := by unfold lockE; rw [if_pos (by omega), h]
theorem lockE_first {l : List WantB} (hk : 0 < l.length) (h : wantE l[0] = 0) : lockE (prevW l 0) l[0] = 0 := by
  unfold lockE; rw [if_neg (by omega)]; rfl
theorem lockE_from {l : List WantB} {k : Nat} (hk : k < l.length) (h0 : 0 < k) (h : wantE l[k] = 0) : lockE (prevW l k) l[k] = if leqB (bl l[k].name) (bl (l[k - 1]'(by omega)).name) = true then 9 else 0 := by
  unfold lockE
  rw [if_neg (by omega)]
  unfold prevW
  rw [if_neg (by omega), List.getElem?_eq_getElem (by omega)]
theorem lockE_le (p : Option WantB) (w : WantB) : lockE p w ≤ 13 := by
  unfold lockE
  split
  · exact wantE_le w
  · cases p with
    | none => exact Nat.zero_le _
    | some q =>
      show (if leqB (bl w.name) (bl q.name) = true then 9 else 0) ≤ 13
      split <;> exact Nat.le_of_ble_eq_true rfl
theorem lockGo_le : ∀ (l : List WantB) (p : Option WantB) (i : Nat) {q : Nat × Nat}, lockGo p i l = some q → q.2 ≤ 13
  | [], _, _, _, h => by cases h
  | w :: l, p, i, q, h => by
    unfold lockGo at h
    split at h
    · obtain rfl := Option.some.inj h
      exact lockE_le _ _
    · exact lockGo_le l _ _ h
theorem lockEr_le (l : List WantB) : (lockEr l).code ≤ 13 := by
  unfold lockEr
  split
  · exact Nat.le_of_ble_eq_true rfl
  · cases h : lockGo none 0 l with
    | none => exact Nat.zero_le _
    | some p => exact lockGo_le l _ _ h
theorem lockTx_take {l : List WantB} {k : Nat} (hk : k < l.length) : lockTx (l.take (k + 1)) = lockTx (l.take k) ++ (wantTx l[k] ++ [10]) := by
  unfold lockTx
  rw [List.take_succ_eq_append_getElem hk, List.flatMap_append]
  simp
theorem linesW_nil (i : Nat) : linesW i (cutL 10 []) = (⟨0, none⟩, []) := by
  rw [show cutL 10 [] = [[]] from rfl]
  unfold linesW
  rw [if_pos rfl]
theorem linesW_last (i : Nat) {s : List UInt8} (h : s ≠ []) (hn : (10 : UInt8) ∉ s) : linesW i (cutL 10 s) = (⟨1, some (i : Int)⟩, []) := by
  rw [cutL_no hn]
  unfold linesW
  rw [if_neg h]
theorem linesW_line (i : Nat) {a r : List UInt8} (hn : (10 : UInt8) ∉ a) : linesW i (cutL 10 (a ++ 10 :: r)) = if (readW a).1 ≠ 0 then (⟨(readW a).1, some (i : Int)⟩, []) else ((linesW (i + 1) (cutL 10 r)).1, (readW a).2 :: (linesW (i + 1) (cutL 10 r)).2) := by
  rw [cutL_app, cutL_no hn]
  have hne := cutL_ne 10 r
  cases hc : cutL 10 r with
  | nil => exact absurd hc hne
  | cons x y =>
    show linesW i (a :: x :: y) = _
    rw [linesW]
    intro h; cases h
end Go.Proofs.YtgchgdkpipanjaaGreatDoor

namespace Go.Proofs.YtgchgdkpipanjaaGreatDoor
open Go

def namesW (l : List WantB) : List (List UInt8) := l.map fun w => bl w.name
theorem wLt.tri {a b : WantB} (h : ¬ wLt a b) (k : ¬ wLt b a) : a.name = b.name := bl_inj (List.le_antisymm (List.not_lt.1 k) (List.not_lt.1 h))
theorem wLt.congr {a b c d : WantB} (h : a.name = c.name) (k : b.name = d.name) : wLt a b ↔ wLt c d := by unfold wLt; rw [h, k]
/-- Strictly ascending lists of the same members are one. -/
theorem strictW_unique : ∀ {l m : List WantB}, l.Pairwise wLt → m.Pairwise wLt → (∀ x, x ∈ l ↔ x ∈ m) → l = m
  | [], [], _, _, _ => rfl
  | [], y :: m, _, _, h => absurd ((h y).2 (List.mem_cons_self ..)) (by simp)
  | x :: l, [], _, _, h => absurd ((h x).1 (List.mem_cons_self ..)) (by simp)
  | x :: l, y :: m, h1, h2, h => by
    have hl := List.pairwise_cons.1 h1
    have hm := List.pairwise_cons.1 h2
    have e : x = y := by
      rcases List.mem_cons.1 ((h x).1 (List.mem_cons_self ..)) with e | hx
      · exact e
      · rcases List.mem_cons.1 ((h y).2 (List.mem_cons_self ..)) with e | hy
        · exact e.symm
        · exact absurd (hl.1 y hy) (hm.1 x hx).asymm
    subst e
    congr 1
    refine strictW_unique hl.2 hm.2 fun z => ?_
    constructor
    · intro hz
      rcases List.mem_cons.1 ((h z).1 (List.mem_cons_of_mem _ hz)) with rfl | hz'
      · exact absurd (hl.1 z hz) (wLt.irrefl z)
      · exact hz'
    · intro hz
      rcases List.mem_cons.1 ((h z).2 (List.mem_cons_of_mem _ hz)) with rfl | hz'
      · exact absurd (hm.1 z hz) (wLt.irrefl z)
      · exact hz'
theorem name_inj {l : List WantB} (h : l.Pairwise wLt) {x y : WantB} (hx : x ∈ l) (hy : y ∈ l) (e : x.name = y.name) : x = y := by
  induction l with
  | nil => cases hx
  | cons z l ih =>
    have hl := List.pairwise_cons.1 h
    rcases List.mem_cons.1 hx with ex | hx'
    · rcases List.mem_cons.1 hy with ey | hy'
      · rw [ex, ey]
      · rw [ex] at e; exact absurd e (hl.1 y hy').ne
    · rcases List.mem_cons.1 hy with ey | hy'
      · rw [ey] at e; exact absurd e.symm (hl.1 x hx').ne
      · exact ih hl.2 hx' hy'
theorem findW_some : ∀ {l : List WantB} {n : ByteArray} {k : Nat}, findW n l = some k → ∃ hk : k < l.length, l[k].name = n
  | [], _, _, h => by cases h
  | w :: l, n, k, h => by
    unfold findW at h
    split at h
    · rename_i e; injection h with h; subst h; exact ⟨by simp, e⟩
    · cases hr : findW n l with
      | none => rw [hr] at h; cases h
      | some j =>
        rw [hr] at h
        simp only [Option.map_some, Option.some.injEq] at h
        subst h
        obtain ⟨h1, h2⟩ := findW_some hr
        exact ⟨by simp; exact h1, by simpa using h2⟩
theorem findW_none : ∀ {l : List WantB} {n : ByteArray}, findW n l = none ↔ ∀ x ∈ l, x.name ≠ n
  | [], n => by simp [findW]
  | w :: l, n => by
    unfold findW
    by_cases h : w.name = n
    · rw [if_pos h]; exact ⟨fun e => (by cases e), fun e => absurd h (e w (List.mem_cons_self ..))⟩
    · rw [if_neg h, Option.map_eq_none_iff, findW_none]
      constructor
      · intro e x hx
        rcases List.mem_cons.1 hx with rfl | hx
        · exact h
        · exact e x hx
      · exact fun e x hx => e x (List.mem_cons_of_mem _ hx)
theorem findW_isSome {l : List WantB} {n : ByteArray} : (findW n l).isSome = true ↔ ∃ x ∈ l, x.name = n := by
  cases h : findW n l with
  | none =>
    have := findW_none.1 h
    simp only [Option.isSome_none]
    exact ⟨fun e => (by cases e), fun ⟨x, hx, e⟩ => absurd e (this x hx)⟩
  | some k =>
    obtain ⟨h1, h2⟩ := findW_some h
    simp only [Option.isSome_some, true_iff]
    exact ⟨_, List.getElem_mem h1, h2⟩
/-- Dropped: the others stay. -/
theorem erase_find : ∀ {l : List WantB} {n : ByteArray} {k : Nat}, l.Pairwise wLt → findW n l = some k → l.eraseIdx k = l.filter (fun x => !decide (x.name = n))
  | [], _, _, _, h => by cases h
  | w :: l, n, k, hs, h => by
    have hl := List.pairwise_cons.1 hs
    unfold findW at h
    split at h
    · rename_i e
      injection h with h; subst h
      rw [List.eraseIdx_cons_zero, List.filter_cons, if_neg (by simp [e])]
      symm
      rw [List.filter_eq_self]
      intro x hx
      have := (hl.1 x hx).ne
      rw [e] at this
      simpa using Ne.symm this
    · rename_i e
      cases hr : findW n l with
      | none => rw [hr] at h; cases h
      | some j =>
        rw [hr] at h
        simp only [Option.map_some, Option.some.injEq] at h
        subst h
        rw [List.eraseIdx_cons_succ, erase_find hl.2 hr, List.filter_cons, if_pos (by simpa using e)]
theorem dropLk_ok {l : List WantB} {n : ByteArray} (hl : LockOk l) (hn : ∃ x ∈ l, x.name = n) : dropLk l n = (⟨0, none⟩, l.filter fun x => !decide (x.name = n)) := by
  obtain ⟨k, hk⟩ := Option.isSome_iff_exists.1 (findW_isSome.2 hn)
  unfold dropLk
  rw [if_neg (by rw [hl.er]; simp), hk]
  simp only
  rw [erase_find hl.strict hk]
theorem place_parts {l : List WantB} {w : WantB} (hl : l.Pairwise wLt) : ∃ A D, l = A ++ D ∧ l.take (placeW l w) = A ∧ l.drop (placeW l w) = D ∧ (∀ y ∈ A, wLt y w) ∧ ∀ y ∈ D, ¬ wLt y w := by
  refine ⟨l.takeWhile (fun x => decide (wLt x w)), l.dropWhile (fun x => decide (wLt x w)), List.takeWhile_append_dropWhile.symm, ?_, ?_, fun y hy => ?_, fun y hy => ?_⟩
  · unfold placeW
    conv => lhs; arg 2; rw [← List.takeWhile_append_dropWhile (p := fun x => decide (wLt x w)) (l := l)]
    rw [List.take_left]
  · unfold placeW
    conv => lhs; arg 2; rw [← List.takeWhile_append_dropWhile (p := fun x => decide (wLt x w)) (l := l)]
    rw [List.drop_left]
  · have := takeWhile_all hy
    simpa using this
  · cases hd : l.dropWhile (fun x => decide (wLt x w)) with
    | nil => rw [hd] at hy; cases hy
    | cons z t =>
      have hz : ¬ wLt z w := by
        have := List.head?_dropWhile_not (p := fun x => decide (wLt x w)) (l := l)
        rw [hd] at this
        simpa using this
      rw [hd] at hy
      rcases List.mem_cons.1 hy with rfl | hy
      · exact hz
      · have hs : (z :: t).Pairwise wLt := by rw [← hd]; exact hl.sublist (List.dropWhile_sublist _)
        exact fun e => hz (((List.pairwise_cons.1 hs).1 y hy).trans e)
/-- Set: it is there; the others stay. -/
theorem setLk_ok {l : List WantB} {w : WantB} (hl : LockOk l) (hw : wantE w = 0) (hr : (∃ x ∈ l, x.name = w.name) ∨ l.length < 20) :
    ∃ r, setLk l w = (⟨0, none⟩, r) ∧ LockOk r ∧ ∀ x, x ∈ r ↔ (x ∈ l ∧ x.name ≠ w.name) ∨ x = w := by
  obtain ⟨A, D, e, hA, hD, h1, h2⟩ := place_parts (w := w) hl.strict
  have hs := hl.strict
  rw [e] at hs
  obtain ⟨sA, sD, sX⟩ := List.pairwise_append.1 hs
  unfold setLk
  rw [if_neg (by rw [hl.er]; simp), if_neg (by rw [hw]; simp)]
  cases hf : (findW w.name l).isSome with
  | true =>
    rw [if_pos rfl, hA, ← List.drop_drop, hD]
    obtain ⟨x0, hx0, ex0⟩ := findW_isSome.1 hf
    cases D with
    | nil =>
      rw [List.append_nil] at e
      subst e
      exact absurd ex0 (h1 x0 hx0).ne
    | cons z D =>
      have hz : ¬ wLt z w := h2 z (List.mem_cons_self ..)
      have ez : z.name = w.name := by
        rw [e] at hx0
        rcases List.mem_append.1 hx0 with hx | hx
        · exact absurd ex0 (h1 x0 hx).ne
        · rcases List.mem_cons.1 hx with rfl | hx
          · exact ex0
          · have := (List.pairwise_cons.1 sD).1 x0 hx
            exact absurd ((wLt.congr rfl ex0).1 this) hz
      have hD2 : ∀ y ∈ D, wLt w y := fun y hy => (wLt.congr ez rfl).1 ((List.pairwise_cons.1 sD).1 y hy)
      refine ⟨_, rfl, ⟨?_, fun x hx => ?_, ?_⟩, fun x => ?_⟩
      · have := hl.few; rw [e] at this; simpa using this
      · rcases List.mem_append.1 hx with hx | hx
        · exact hl.each x (by rw [e]; exact List.mem_append_left _ hx)
        · rcases List.mem_cons.1 hx with rfl | hx
          · exact hw
          · exact hl.each x (by rw [e]; exact List.mem_append_right _ (List.mem_cons_of_mem _ hx))
      · refine List.pairwise_append.2 ⟨sA, List.pairwise_cons.2 ⟨hD2, (List.pairwise_cons.1 sD).2⟩, fun a ha b hb => ?_⟩
        rcases List.mem_cons.1 hb with rfl | hb
        · exact h1 a ha
        · exact sX a ha b (List.mem_cons_of_mem _ hb)
      · rw [e]
        simp only [List.drop_succ_cons, List.drop_zero, List.mem_append, List.mem_cons]
        constructor
        · rintro (hx | rfl | hx)
          · exact .inl ⟨.inl hx, (h1 x hx).ne⟩
          · exact .inr rfl
          · exact .inl ⟨.inr (.inr hx), (hD2 x hx).ne.symm⟩
        · rintro (⟨hx | rfl | hx, hne⟩ | rfl)
          · exact .inl hx
          · exact absurd ez hne
          · exact .inr (.inr hx)
          · exact .inr (.inl rfl)
  | false =>
    have hno : ∀ x ∈ l, x.name ≠ w.name := findW_none.1 (by cases h : findW w.name l with | none => rfl | some k => rw [h] at hf; cases hf)
    have h20 : l.length < 20 := by
      rcases hr with ⟨x, hx, ex⟩ | h
      · exact absurd ex (hno x hx)
      · exact h
    rw [if_neg (by simp), if_neg (by omega), hA, hD]
    have hD2 : ∀ y ∈ D, wLt w y := fun y hy => Classical.byContradiction fun hn => hno y (by rw [e]; exact List.mem_append_right _ hy) (wLt.tri (h2 y hy) hn)
    refine ⟨_, rfl, ⟨?_, fun x hx => ?_, ?_⟩, fun x => ?_⟩
    · rw [e] at h20; simp at h20 ⊢; omega
    · rcases List.mem_append.1 hx with hx | hx
      · exact hl.each x (by rw [e]; exact List.mem_append_left _ hx)
      · rcases List.mem_cons.1 hx with rfl | hx
        · exact hw
        · exact hl.each x (by rw [e]; exact List.mem_append_right _ hx)
    · refine List.pairwise_append.2 ⟨sA, List.pairwise_cons.2 ⟨hD2, sD⟩, fun a ha b hb => ?_⟩
      rcases List.mem_cons.1 hb with rfl | hb
      · exact h1 a ha
      · exact sX a ha b hb
    · rw [List.mem_append, List.mem_cons]
      constructor
      · rintro (hx | rfl | hx)
        · exact .inl ⟨by rw [e]; exact List.mem_append_left _ hx, (h1 x hx).ne⟩
        · exact .inr rfl
        · exact .inl ⟨by rw [e]; exact List.mem_append_right _ hx, (hD2 x hx).ne.symm⟩
      · rintro (⟨hx, hne⟩ | rfl)
        · rw [e] at hx
          rcases List.mem_append.1 hx with hx | hx
          · exact .inl hx
          · exact .inr (.inr hx)
        · exact .inr (.inl rfl)

def flipD (p : UInt8 × ByteArray) : UInt8 × ByteArray := (if p.1 = 43 then 45 else if p.1 = 45 then 43 else p.1, p.2)
theorem diff_self : ∀ (a : List WantB), diffGo a a = []
  | [] => by unfold diffGo; rfl
  | x :: a => by
    unfold diffGo
    rw [if_neg (wLt.irrefl x), if_neg (wLt.irrefl x), if_pos rfl, diff_self a]; rfl
theorem diff_flip (a b : List WantB) : diffGo b a = (diffGo a b).map flipD := by
  fun_induction diffGo a b with
  | case1 => unfold diffGo; rfl
  | case2 x a ih => rw [diffGo, ih]; rfl
  | case3 y b ih => rw [diffGo, ih]; rfl
  | case4 x a y b h ih => rw [diffGo, if_neg h.asymm, if_pos h, ih]; rfl
  | case5 x a y b h1 h2 ih => rw [diffGo, if_pos h2, ih]; rfl
  | case6 x a y b h1 h2 ih =>
    rw [diffGo, if_neg h2, if_neg h1, ih, List.map_append]
    congr 1
    by_cases e : x = y
    · rw [if_pos e, if_pos e.symm]; rfl
    · rw [if_neg e, if_neg (Ne.symm e), wLt.tri h1 h2]; rfl
/-- What a difference tells. -/
def DiffSays (a b : List WantB) (p : UInt8 × ByteArray) : Prop :=
  (p.1 = 45 ∧ (∃ x ∈ a, x.name = p.2) ∧ ∀ y ∈ b, y.name ≠ p.2) ∨ (p.1 = 43 ∧ (∃ y ∈ b, y.name = p.2) ∧ ∀ x ∈ a, x.name ≠ p.2) ∨ (p.1 = 42 ∧ ∃ x ∈ a, ∃ y ∈ b, x.name = p.2 ∧ y.name = p.2 ∧ x ≠ y)
def nLt (p q : UInt8 × ByteArray) : Prop := bl p.2 < bl q.2
theorem diff_low (a b : List WantB) (n : List UInt8) (ha : ∀ x ∈ a, n < bl x.name) (hb : ∀ y ∈ b, n < bl y.name) : ∀ p ∈ diffGo a b, n < bl p.2 := by
  fun_induction diffGo a b with
  | case1 => intro p hp; cases hp
  | case2 x a ih =>
    intro p hp
    rcases List.mem_cons.1 hp with rfl | hp
    · exact ha x (List.mem_cons_self ..)
    · exact ih (fun y hy => ha y (List.mem_cons_of_mem _ hy)) hb p hp
  | case3 y b ih =>
    intro p hp
    rcases List.mem_cons.1 hp with rfl | hp
    · exact hb y (List.mem_cons_self ..)
    · exact ih ha (fun z hz => hb z (List.mem_cons_of_mem _ hz)) p hp
  | case4 x a y b h ih =>
    intro p hp
    rcases List.mem_cons.1 hp with rfl | hp
    · exact ha x (List.mem_cons_self ..)
    · exact ih (fun z hz => ha z (List.mem_cons_of_mem _ hz)) hb p hp
  | case5 x a y b h1 h2 ih =>
    intro p hp
    rcases List.mem_cons.1 hp with rfl | hp
    · exact hb y (List.mem_cons_self ..)
    · exact ih ha (fun z hz => hb z (List.mem_cons_of_mem _ hz)) p hp
  | case6 x a y b h1 h2 ih =>
    intro p hp
    rcases List.mem_append.1 hp with hp | hp
    · by_cases e : x = y
      · rw [if_pos e] at hp; cases hp
      · rw [if_neg e] at hp
        obtain rfl := List.mem_singleton.1 hp
        exact ha x (List.mem_cons_self ..)
    · exact ih (fun z hz => ha z (List.mem_cons_of_mem _ hz)) (fun z hz => hb z (List.mem_cons_of_mem _ hz)) p hp
theorem diff_strict (a b : List WantB) (ha : a.Pairwise wLt) (hb : b.Pairwise wLt) : (diffGo a b).Pairwise nLt := by
  fun_induction diffGo a b with
  | case1 => exact List.Pairwise.nil
  | case2 x a ih => exact List.pairwise_cons.2 ⟨diff_low a [] _ (List.pairwise_cons.1 ha).1 (fun y hy => by cases hy), ih (List.pairwise_cons.1 ha).2 hb⟩
  | case3 y b ih => exact List.pairwise_cons.2 ⟨diff_low [] b _ (fun y hy => by cases hy) (List.pairwise_cons.1 hb).1, ih ha (List.pairwise_cons.1 hb).2⟩
  | case4 x a y b h ih =>
    refine List.pairwise_cons.2 ⟨diff_low a (y :: b) _ (List.pairwise_cons.1 ha).1 (fun z hz => ?_), ih (List.pairwise_cons.1 ha).2 hb⟩
    rcases List.mem_cons.1 hz with rfl | hz
    · exact h
    · exact h.trans ((List.pairwise_cons.1 hb).1 z hz)
  | case5 x a y b h1 h2 ih =>
    refine List.pairwise_cons.2 ⟨diff_low (x :: a) b _ (fun z hz => ?_) (List.pairwise_cons.1 hb).1, ih ha (List.pairwise_cons.1 hb).2⟩
    rcases List.mem_cons.1 hz with rfl | hz
    · exact h2
    · exact h2.trans ((List.pairwise_cons.1 ha).1 z hz)
  | case6 x a y b h1 h2 ih =>
    have en := wLt.tri h1 h2
    refine List.pairwise_append.2 ⟨by by_cases e : x = y <;> simp [e], ih (List.pairwise_cons.1 ha).2 (List.pairwise_cons.1 hb).2, fun p hp q hq => ?_⟩
    by_cases e : x = y
    · rw [if_pos e] at hp; cases hp
    · rw [if_neg e] at hp
      obtain rfl := List.mem_singleton.1 hp
      exact diff_low a b _ (List.pairwise_cons.1 ha).1 (fun z hz => by have := (List.pairwise_cons.1 hb).1 z hz; unfold wLt at this; rwa [← en] at this) q hq
theorem diff_says (a b : List WantB) (ha : a.Pairwise wLt) (hb : b.Pairwise wLt) : ∀ p, p ∈ diffGo a b ↔ DiffSays a b p := by
  fun_induction diffGo a b with
  | case1 => intro p; unfold DiffSays; simp
  | case2 x a ih =>
    intro p
    rw [List.mem_cons, ih (List.pairwise_cons.1 ha).2 hb p]
    unfold DiffSays
    simp only [List.not_mem_nil, false_and, exists_false, and_false, or_false, false_implies, implies_true, and_true, List.mem_cons]
    constructor
    · rintro (rfl | ⟨h1, z, hz, e⟩)
      · exact ⟨rfl, x, .inl rfl, rfl⟩
      · exact ⟨h1, z, .inr hz, e⟩
    · rintro ⟨h1, z, rfl | hz, e⟩
      · exact .inl (Prod.ext h1 e.symm)
      · exact .inr ⟨h1, z, hz, e⟩
  | case3 y b ih =>
    intro p
    rw [List.mem_cons, ih ha (List.pairwise_cons.1 hb).2 p]
    unfold DiffSays
    simp only [List.not_mem_nil, false_and, exists_false, and_false, or_false, false_or, false_implies, implies_true, and_true, List.mem_cons]
    constructor
    · rintro (rfl | ⟨h1, z, hz, e⟩)
      · exact ⟨rfl, y, .inl rfl, rfl⟩
      · exact ⟨h1, z, .inr hz, e⟩
    · rintro ⟨h1, z, rfl | hz, e⟩
      · exact .inl (Prod.ext h1 e.symm)
      · exact .inr ⟨h1, z, hz, e⟩
  | case4 x a y b h ih =>
    intro p
    have hxb : ∀ z ∈ y :: b, z.name ≠ x.name := fun z hz => by
      rcases List.mem_cons.1 hz with rfl | hz
      · exact h.ne.symm
      · exact (h.trans ((List.pairwise_cons.1 hb).1 z hz)).ne.symm
    rw [List.mem_cons, ih (List.pairwise_cons.1 ha).2 hb p]
    unfold DiffSays
    constructor
    · rintro (rfl | ⟨h1, ⟨z, hz, e⟩, h3⟩ | ⟨h1, h2, h3⟩ | ⟨h1, z, hz, u, hu, e1, e2, h3⟩)
      · exact .inl ⟨rfl, ⟨x, List.mem_cons_self .., rfl⟩, hxb⟩
      · exact .inl ⟨h1, ⟨z, List.mem_cons_of_mem _ hz, e⟩, h3⟩
      · refine .inr (.inl ⟨h1, h2, fun z hz => ?_⟩)
        rcases List.mem_cons.1 hz with rfl | hz
        · obtain ⟨u, hu, e⟩ := h2
          rw [← e]; exact (hxb u hu).symm
        · exact h3 z hz
      · exact .inr (.inr ⟨h1, z, List.mem_cons_of_mem _ hz, u, hu, e1, e2, h3⟩)
    · rintro (⟨h1, ⟨z, hz, e⟩, h3⟩ | ⟨h1, h2, h3⟩ | ⟨h1, z, hz, u, hu, e1, e2, h3⟩)
      · rcases List.mem_cons.1 hz with rfl | hz
        · exact .inl (Prod.ext h1 e.symm)
        · exact .inr (.inl ⟨h1, ⟨z, hz, e⟩, h3⟩)
      · exact .inr (.inr (.inl ⟨h1, h2, fun z hz => h3 z (List.mem_cons_of_mem _ hz)⟩))
      · rcases List.mem_cons.1 hz with rfl | hz
        · exact absurd (e2.trans e1.symm) (hxb u hu)
        · exact .inr (.inr (.inr ⟨h1, z, hz, u, hu, e1, e2, h3⟩))
  | case5 x a y b h1' h2' ih =>
    intro p
    have hya : ∀ z ∈ x :: a, z.name ≠ y.name := fun z hz => by
      rcases List.mem_cons.1 hz with rfl | hz
      · exact h2'.ne.symm
      · exact (h2'.trans ((List.pairwise_cons.1 ha).1 z hz)).ne.symm
    rw [List.mem_cons, ih ha (List.pairwise_cons.1 hb).2 p]
    unfold DiffSays
    constructor
    · rintro (rfl | ⟨h1, h2, h3⟩ | ⟨h1, ⟨z, hz, e⟩, h3⟩ | ⟨h1, z, hz, u, hu, e1, e2, h3⟩)
      · exact .inr (.inl ⟨rfl, ⟨y, List.mem_cons_self .., rfl⟩, hya⟩)
      · refine .inl ⟨h1, h2, fun z hz => ?_⟩
        rcases List.mem_cons.1 hz with rfl | hz
        · obtain ⟨u, hu, e⟩ := h2
          rw [← e]; exact (hya u hu).symm
        · exact h3 z hz
      · exact .inr (.inl ⟨h1, ⟨z, List.mem_cons_of_mem _ hz, e⟩, h3⟩)
      · exact .inr (.inr ⟨h1, z, hz, u, List.mem_cons_of_mem _ hu, e1, e2, h3⟩)
    · rintro (⟨h1, h2, h3⟩ | ⟨h1, ⟨z, hz, e⟩, h3⟩ | ⟨h1, z, hz, u, hu, e1, e2, h3⟩)
      · exact .inr (.inl ⟨h1, h2, fun z hz => h3 z (List.mem_cons_of_mem _ hz)⟩)
      · rcases List.mem_cons.1 hz with rfl | hz
        · exact .inl (Prod.ext h1 e.symm)
        · exact .inr (.inr (.inl ⟨h1, ⟨z, hz, e⟩, h3⟩))
      · rcases List.mem_cons.1 hu with rfl | hu
        · exact absurd (e1.trans e2.symm) (hya z hz)
        · exact .inr (.inr (.inr ⟨h1, z, hz, u, hu, e1, e2, h3⟩))
  | case6 x a y b h1' h2' ih =>
    intro p
    have en := wLt.tri h1' h2'
    have hxa : ∀ z ∈ a, z.name ≠ x.name := fun z hz => ((List.pairwise_cons.1 ha).1 z hz).ne.symm
    have hyb : ∀ z ∈ b, z.name ≠ x.name := fun z hz => by rw [en]; exact ((List.pairwise_cons.1 hb).1 z hz).ne.symm
    rw [List.mem_append, ih (List.pairwise_cons.1 ha).2 (List.pairwise_cons.1 hb).2 p]
    unfold DiffSays
    constructor
    · rintro (hp | ⟨h1, ⟨z, hz, e⟩, h3⟩ | ⟨h1, ⟨z, hz, e⟩, h3⟩ | ⟨h1, z, hz, u, hu, e1, e2, h3⟩)
      · by_cases e : x = y
        · rw [if_pos e] at hp; cases hp
        · rw [if_neg e] at hp
          obtain rfl := List.mem_singleton.1 hp
          exact .inr (.inr ⟨rfl, x, List.mem_cons_self .., y, List.mem_cons_self .., rfl, en.symm, e⟩)
      · refine .inl ⟨h1, ⟨z, List.mem_cons_of_mem _ hz, e⟩, fun u hu => ?_⟩
        rcases List.mem_cons.1 hu with rfl | hu
        · rw [← en, ← e]; exact (hxa z hz).symm
        · exact h3 u hu
      · refine .inr (.inl ⟨h1, ⟨z, List.mem_cons_of_mem _ hz, e⟩, fun u hu => ?_⟩)
        rcases List.mem_cons.1 hu with rfl | hu
        · rw [← e]; exact (hyb z hz).symm
        · exact h3 u hu
      · exact .inr (.inr ⟨h1, z, List.mem_cons_of_mem _ hz, u, List.mem_cons_of_mem _ hu, e1, e2, h3⟩)
    · rintro (⟨h1, ⟨z, hz, e⟩, h3⟩ | ⟨h1, ⟨z, hz, e⟩, h3⟩ | ⟨h1, z, hz, u, hu, e1, e2, h3⟩)
      · rcases List.mem_cons.1 hz with rfl | hz
        · exact absurd (en.symm.trans e) (h3 y (List.mem_cons_self ..))
        · exact .inr (.inl ⟨h1, ⟨z, hz, e⟩, fun u hu => h3 u (List.mem_cons_of_mem _ hu)⟩)
      · rcases List.mem_cons.1 hz with rfl | hz
        · exact absurd (en.trans e) (h3 x (List.mem_cons_self ..))
        · exact .inr (.inr (.inl ⟨h1, ⟨z, hz, e⟩, fun u hu => h3 u (List.mem_cons_of_mem _ hu)⟩))
      · rcases List.mem_cons.1 hz with rfl | hz
        · rcases List.mem_cons.1 hu with rfl | hu
          · refine .inl ?_
            rw [if_neg h3]
            exact List.mem_singleton.2 (Prod.ext h1 e1.symm)
          · exact absurd (e2.trans e1.symm) (hyb u hu)
        · rcases List.mem_cons.1 hu with rfl | hu
          · exact absurd (e1.trans (e2.symm.trans en.symm)) (hxa z hz)
          · exact .inr (.inr (.inr ⟨h1, z, hz, u, hu, e1, e2, h3⟩))
end Go.Proofs.YtgchgdkpipanjaaGreatDoor

namespace Go.Proofs.YtgchgdkpipanjaaGreatDoor
open Go

/-- A name is dropped by what stands first. -/
def goneN (d : List (UInt8 × ByteArray)) (n : ByteArray) : Bool := d.any fun p => p.1 == 45 && decide (p.2 = n)
def doneN (d : List (UInt8 × ByteArray)) (n : ByteArray) : Bool := d.any fun p => p.1 != 45 && decide (p.2 = n)
/-- What is left of a, the first k told dropped. -/
def leftA (a : List WantB) (d : List (UInt8 × ByteArray)) (k : Nat) : List WantB := a.filter fun x => !goneN (d.take k) x.name
theorem goneN_step {d : List (UInt8 × ByteArray)} {k : Nat} (hk : k < d.length) (n : ByteArray) : goneN (d.take (k + 1)) n = (goneN (d.take k) n || (d[k].1 == 45 && decide (d[k].2 = n))) := by
  unfold goneN
  rw [List.take_succ_eq_append_getElem hk, List.any_append]
  simp
theorem doneN_step {d : List (UInt8 × ByteArray)} {k : Nat} (hk : k < d.length) (n : ByteArray) : doneN (d.take (k + 1)) n = (doneN (d.take k) n || (d[k].1 != 45 && decide (d[k].2 = n))) := by
  unfold doneN
  rw [List.take_succ_eq_append_getElem hk, List.any_append]
  simp
theorem d_names {d : List (UInt8 × ByteArray)} (hd : d.Pairwise nLt) {i j : Nat} (hij : i < j) (hj : j < d.length) : (d[i]'(by omega)).2 ≠ d[j].2 := fun e => by
  have := List.pairwise_iff_getElem.1 hd i j (by omega) hj hij
  unfold nLt at this
  rw [e] at this
  exact List.lt_irrefl _ this
theorem not_gone {d : List (UInt8 × ByteArray)} (hd : d.Pairwise nLt) {k : Nat} (hk : k < d.length) : goneN (d.take k) d[k].2 = false := by
  unfold goneN
  rw [List.any_eq_false]
  intro p hp
  obtain ⟨j, hj, rfl⟩ := List.getElem_of_mem hp
  rw [List.length_take] at hj
  have := d_names hd (i := j) (j := k) (by omega) hk
  rw [List.getElem_take]
  simp [this]
/-- One is dropped. -/
theorem leftA_drop {a b : List WantB} (ha : LockOk a) (hb : LockOk b) {k : Nat} (hk : k < (diffGo a b).length) (h45 : (diffGo a b)[k].1 = 45) :
    dropLk (leftA a (diffGo a b) k) (diffGo a b)[k].2 = (⟨0, none⟩, leftA a (diffGo a b) (k + 1)) := by
  have hd := diff_strict a b ha.strict hb.strict
  have hs := (diff_says a b ha.strict hb.strict _).1 (List.getElem_mem hk)
  obtain ⟨x, hx, ex⟩ : ∃ x ∈ a, x.name = (diffGo a b)[k].2 := by
    rcases hs with ⟨_, h, _⟩ | ⟨h, _⟩ | ⟨h, _⟩
    · exact h
    · rw [h45] at h; cases h
    · rw [h45] at h; cases h
  have hin : x ∈ leftA a (diffGo a b) k := List.mem_filter.2 ⟨hx, by rw [ex, not_gone hd hk]; rfl⟩
  have hok : LockOk (leftA a (diffGo a b) k) := ha.sub List.filter_sublist
  rw [dropLk_ok hok ⟨x, hin, ex⟩]
  congr 1
  unfold leftA
  rw [List.filter_filter]
  refine List.filter_congr fun y _ => ?_
  rw [goneN_step hk, h45]
  by_cases e : y.name = (diffGo a b)[k].2
  · simp [e]
  · simp [e, Ne.symm e]
theorem leftA_keep {a b : List WantB} {k : Nat} (hk : k < (diffGo a b).length) (h45 : (diffGo a b)[k].1 ≠ 45) : leftA a (diffGo a b) (k + 1) = leftA a (diffGo a b) k := by
  unfold leftA
  refine List.filter_congr fun y _ => ?_
  rw [goneN_step hk]
  have : ((diffGo a b)[k].1 == 45) = false := by simpa using h45
  rw [this, Bool.false_and, Bool.or_false]
/-- A state of the second loop: which are there. -/
structure MidW (a b now : List WantB) (d : List (UInt8 × ByteArray)) (k : Nat) : Prop where
  ok : LockOk now
  mem : ∀ x, x ∈ now ↔ (x ∈ a ∧ (∃ y ∈ b, y.name = x.name) ∧ doneN (d.take k) x.name = false) ∨ (x ∈ b ∧ doneN (d.take k) x.name = true)
theorem MidW.start {a b : List WantB} (ha : LockOk a) (hb : LockOk b) : MidW a b (leftA a (diffGo a b) (diffGo a b).length) (diffGo a b) 0 := by
  refine ⟨ha.sub List.filter_sublist, fun x => ?_⟩
  have h0 : ∀ n, doneN ((diffGo a b).take 0) n = false := fun n => by rw [List.take_zero]; rfl
  rw [h0]
  simp only [Bool.false_eq_true, and_false, or_false, and_true]
  unfold leftA
  rw [List.mem_filter, List.take_length]
  constructor
  · rintro ⟨hx, hg⟩
    refine ⟨hx, Classical.byContradiction fun hn => ?_⟩
    have hm : ((45 : UInt8), x.name) ∈ diffGo a b := (diff_says a b ha.strict hb.strict _).2 (.inl ⟨rfl, ⟨x, hx, rfl⟩, fun y hy e => hn ⟨y, hy, e⟩⟩)
    have : goneN (diffGo a b) x.name = true := List.any_eq_true.2 ⟨_, hm, by simp⟩
    rw [this] at hg; cases hg
  · rintro ⟨hx, y, hy, e⟩
    refine ⟨hx, ?_⟩
    have : goneN (diffGo a b) x.name = false := by
      unfold goneN
      rw [List.any_eq_false]
      intro p hp
      have hs := (diff_says a b ha.strict hb.strict p).1 hp
      intro ht
      simp only [Bool.and_eq_true, beq_iff_eq, decide_eq_true_eq] at ht
      rcases hs with ⟨_, _, h⟩ | ⟨h, _⟩ | ⟨h, _⟩
      · exact h y hy (e.trans ht.2.symm)
      · rw [ht.1] at h; cases h
      · rw [ht.1] at h; cases h
    rw [this]; rfl
theorem nodup_sub : ∀ (l m : List (List UInt8)), l.Nodup → (∀ x ∈ l, x ∈ m) → l.length ≤ m.length
  | [], m, _, _ => Nat.zero_le _
  | x :: l, m, h, hs => by
    have hx := hs x (List.mem_cons_self ..)
    have hn := List.nodup_cons.1 h
    have ih := nodup_sub l (m.erase x) hn.2 fun y hy => by
      have hy2 := hs y (List.mem_cons_of_mem _ hy)
      exact (List.mem_erase_of_ne (fun e => hn.1 (by rw [← e]; exact hy))).2 hy2
    rw [List.length_erase_of_mem hx] at ih
    have := List.length_pos_of_mem hx
    rw [List.length_cons]; omega
theorem names_nodup {l : List WantB} (h : l.Pairwise wLt) : (namesW l).Nodup := by
  unfold namesW List.Nodup
  rw [List.pairwise_map]
  exact h.imp fun h e => h.ne (bl_inj e)
theorem MidW.keep {a b now : List WantB} {k : Nat} (h : MidW a b now (diffGo a b) k) (hk : k < (diffGo a b).length) (h45 : (diffGo a b)[k].1 = 45) : MidW a b now (diffGo a b) (k + 1) := by
  refine ⟨h.ok, fun x => ?_⟩
  have : ∀ n, doneN ((diffGo a b).take (k + 1)) n = doneN ((diffGo a b).take k) n := fun n => by rw [doneN_step hk, h45]; simp
  rw [this]; exact h.mem x
theorem MidW.set {a b now : List WantB} {k : Nat} (ha : LockOk a) (hb : LockOk b) (h : MidW a b now (diffGo a b) k) (hk : k < (diffGo a b).length) (h45 : (diffGo a b)[k].1 ≠ 45) :
    ∃ j, findW (diffGo a b)[k].2 b = some j ∧ ∃ hj : j < b.length, ∃ r, setLk now b[j] = (⟨0, none⟩, r) ∧ MidW a b r (diffGo a b) (k + 1) := by
  have hs := (diff_says a b ha.strict hb.strict _).1 (List.getElem_mem hk)
  have hy : ∃ y ∈ b, y.name = (diffGo a b)[k].2 := by
    rcases hs with ⟨h, _⟩ | ⟨_, h, _⟩ | ⟨_, x, hx, y, hy, e1, e2, _⟩
    · exact absurd h h45
    · exact h
    · exact ⟨y, hy, e2⟩
  obtain ⟨j, hj⟩ := Option.isSome_iff_exists.1 (findW_isSome.2 hy)
  obtain ⟨hjl, hjn⟩ := findW_some hj
  have hwb : b[j] ∈ b := List.getElem_mem hjl
  have hsub : ∀ x ∈ now, ∃ y ∈ b, y.name = x.name := fun x hx => by
    rcases (h.mem x).1 hx with ⟨_, h2, _⟩ | ⟨h1, _⟩
    · exact h2
    · exact ⟨x, h1, rfl⟩
  have hroom : (∃ x ∈ now, x.name = b[j].name) ∨ now.length < 20 := by
    by_cases hin : ∃ x ∈ now, x.name = b[j].name
    · exact .inl hin
    · refine .inr ?_
      have hnd : (bl b[j].name :: namesW now).Nodup := List.nodup_cons.2 ⟨fun hm => by
        obtain ⟨x, hx, e⟩ := List.mem_map.1 hm
        exact hin ⟨x, hx, bl_inj e⟩, names_nodup h.ok.strict⟩
      have := nodup_sub _ (namesW b) hnd fun n hn => by
        rcases List.mem_cons.1 hn with rfl | hn
        · exact List.mem_map.2 ⟨_, hwb, rfl⟩
        · obtain ⟨x, hx, rfl⟩ := List.mem_map.1 hn
          obtain ⟨y, hy, e⟩ := hsub x hx
          exact List.mem_map.2 ⟨y, hy, by rw [e]⟩
      rw [List.length_cons] at this
      unfold namesW at this
      rw [List.length_map, List.length_map] at this
      have := hb.few
      omega
  obtain ⟨r, hr, rok, rmem⟩ := setLk_ok h.ok (hb.each _ hwb) hroom
  refine ⟨j, hj, hjl, r, hr, rok, fun x => ?_⟩
  have hst : ∀ n, doneN ((diffGo a b).take (k + 1)) n = (doneN ((diffGo a b).take k) n || decide ((diffGo a b)[k].2 = n)) := fun n => by
    rw [doneN_step hk]
    have : ((diffGo a b)[k].1 != 45) = true := by simpa using h45
    rw [this, Bool.true_and]
  rw [rmem x, hst, h.mem x, hjn]
  constructor
  · rintro (⟨⟨h1, h2, h3⟩ | ⟨h1, h2⟩, hne⟩ | rfl)
    · exact .inl ⟨h1, h2, by rw [h3]; simpa using Ne.symm hne⟩
    · exact .inr ⟨h1, by rw [h2]; rfl⟩
    · exact .inr ⟨hwb, by rw [hjn]; simp⟩
  · rintro (⟨h1, h2, h3⟩ | ⟨h1, h2⟩)
    · rw [Bool.or_eq_false_iff] at h3
      exact .inl ⟨.inl ⟨h1, h2, h3.1⟩, by have := of_decide_eq_false h3.2; exact fun e => this e.symm⟩
    · by_cases e : x.name = (diffGo a b)[k].2
      · exact .inr (name_inj hb.strict h1 hwb (e.trans hjn.symm))
      · refine .inl ⟨.inr ⟨h1, ?_⟩, e⟩
        have : decide ((diffGo a b)[k].2 = x.name) = false := by simpa using Ne.symm e
        rwa [this, Bool.or_false] at h2
theorem MidW.done {a b now : List WantB} (ha : LockOk a) (hb : LockOk b) (h : MidW a b now (diffGo a b) (diffGo a b).length) : now = b := by
  refine strictW_unique h.ok.strict hb.strict fun x => ?_
  rw [h.mem x, List.take_length]
  have done_of : ∀ p ∈ diffGo a b, p.1 ≠ 45 → doneN (diffGo a b) p.2 = true := fun p hp h45 => List.any_eq_true.2 ⟨p, hp, by simp [h45]⟩
  constructor
  · rintro (⟨h1, ⟨y, hy, e⟩, h3⟩ | ⟨h1, _⟩)
    · by_cases exy : x = y
      · rw [exy]; exact hy
      · have := done_of (42, x.name) ((diff_says a b ha.strict hb.strict _).2 (.inr (.inr ⟨rfl, x, h1, y, hy, rfl, e, exy⟩))) (by simp)
        simp only at this
        rw [this] at h3; cases h3
    · exact h1
  · intro hx
    cases hdn : doneN (diffGo a b) x.name with
    | true => exact .inr ⟨hx, rfl⟩
    | false =>
      refine .inl ⟨?_, ⟨x, hx, rfl⟩, rfl⟩
      by_cases hin : ∃ z ∈ a, z.name = x.name
      · obtain ⟨z, hz, e⟩ := hin
        by_cases ezx : z = x
        · rw [← ezx]; exact hz
        · have := done_of (42, x.name) ((diff_says a b ha.strict hb.strict _).2 (.inr (.inr ⟨rfl, z, hz, x, hx, e, rfl, ezx⟩))) (by simp)
          simp only at this
          rw [this] at hdn; cases hdn
      · have := done_of (43, x.name) ((diff_says a b ha.strict hb.strict _).2 (.inr (.inl ⟨rfl, ⟨x, hx, rfl⟩, fun z hz e => hin ⟨z, hz, e⟩⟩))) (by simp)
        simp only at this
        rw [this] at hdn; cases hdn
end Go.Proofs.YtgchgdkpipanjaaGreatDoor
