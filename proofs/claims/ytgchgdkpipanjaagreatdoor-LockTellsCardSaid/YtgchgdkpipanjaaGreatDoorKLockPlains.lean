/- Steps of a lock's check, and of its reading, in plain Lean. Differences of locks, in plain Lean. -/
import Derived.Test.YtgchgdkpipanjaaGreatDoorKWantPlains
namespace Go.Proofs.YtgchgdkpipanjaaGreatDoor
open Go

def prevW (l : List WantB) (k : Nat) : Option WantB := if k = 0 then none else l[k - 1]?
theorem lockGo_step {l : List WantB} {k : Nat} (hk : k < l.length) : lockGo (prevW l k) k (l.drop k) = if lockE (prevW l k) l[k] ≠ 0 then some (k, lockE (prevW l k) l[k]) else lockGo (prevW l (k + 1)) (k + 1) (l.drop (k + 1)) := by
  rw [List.drop_eq_getElem_cons hk]
  have h : prevW l (k + 1) = some l[k] := by
    unfold prevW
    rw [if_neg (by omega), show k + 1 - 1 = k by omega, List.getElem?_eq_getElem hk]
  rw [h]
  rfl
theorem lockEr_at {l : List WantB} {k c : Nat} (h20 : l.length ≤ 20) (hk : k < l.length) (hF : lockGo none 0 l = lockGo (prevW l k) k (l.drop k)) (hc : lockE (prevW l k) l[k] = c + 1) : lockEr l = ⟨c + 1, some (k : Int)⟩ := by
  have : lockGo none 0 l = some (k, c + 1) := by rw [hF, lockGo_step hk, if_pos (by omega), hc]
  unfold lockEr
  rw [if_neg (by omega), this]
theorem lockGo_next {l : List WantB} {k : Nat} (hk : k < l.length) (hF : lockGo none 0 l = lockGo (prevW l k) k (l.drop k)) (hc : lockE (prevW l k) l[k] = 0) : lockGo none 0 l = lockGo (prevW l (k + 1)) (k + 1) (l.drop (k + 1)) := by
  rw [hF, lockGo_step hk, if_neg (by omega)]
theorem lockEr_end {l : List WantB} (h20 : l.length ≤ 20) (hF : lockGo none 0 l = lockGo (prevW l l.length) l.length (l.drop l.length)) : lockEr l = ⟨0, none⟩ := by
  have : lockGo none 0 l = none := by rw [hF, List.drop_length]; rfl
  unfold lockEr
  rw [if_neg (by omega), this]
theorem lockEr_many {l : List WantB} (h : 20 < l.length) : lockEr l = ⟨8, none⟩ := by unfold lockEr; rw [if_pos h]
theorem lockE_want {l : List WantB} {k c : Nat} (hk : k < l.length) (h : wantE l[k] = c + 1) : lockE (prevW l k) l[k] = c + 1 := by unfold lockE; rw [if_pos (by omega), h]
theorem lockE_first {l : List WantB} (hk : 0 < l.length) (h : wantE l[0] = 0) : lockE (prevW l 0) l[0] = 0 := by
  unfold lockE; rw [if_neg (by omega)]; rfl
theorem lockE_from {l : List WantB} {k : Nat} (hk : k < l.length) (h0 : 0 < k) (h : wantE l[k] = 0) : lockE (prevW l k) l[k] = if leqB (bl l[k].name) (bl (l[k - 1]'(by omega)).name) = true then 9 else 0 := by
  unfold lockE
  rw [if_neg (by omega)]
  unfold prevW
  rw [if_neg (by omega), List.getElem?_eq_getElem (by omega)]
theorem lockTx_take {l : List WantB} {k : Nat} (hk : k < l.length) : lockTx (l.take (k + 1)) = lockTx (l.take k) ++ (wantTx l[k] ++ [10]) := by
  unfold lockTx
  rw [List.take_succ_eq_append_getElem hk, List.flatMap_append]
  simp
theorem linesW_nil (i : Nat) : linesW i (cutL 10 []) = (⟨0, none⟩, []) := by
  rw [show cutL 10 [] = [[]] from rfl]
  unfold linesW
  rw [if_pos rfl]
theorem linesW_last (i : Nat) {s : List UInt8} (h : s ≠ []) (hn : (10 : UInt8) ∉ s) : linesW i (cutL 10 s) = (⟨1, some (i : Int)⟩, []) := by
  rw [cutL_no hn]
  unfold linesW
  rw [if_neg h]
theorem linesW_line (i : Nat) {a r : List UInt8} (hn : (10 : UInt8) ∉ a) : linesW i (cutL 10 (a ++ 10 :: r)) = if (readW a).1 ≠ 0 then (⟨(readW a).1, some (i : Int)⟩, []) else ((linesW (i + 1) (cutL 10 r)).1, (readW a).2 :: (linesW (i + 1) (cutL 10 r)).2) := by
  rw [cutL_app, cutL_no hn]
  have hne := cutL_ne 10 r
  cases hc : cutL 10 r with
  | nil => exact absurd hc hne
  | cons x y =>
    show linesW i (a :: x :: y) = _
    rw [linesW]
    intro h; cases h
end Go.Proofs.YtgchgdkpipanjaaGreatDoor

namespace Go.Proofs.YtgchgdkpipanjaaGreatDoor
open Go

theorem wLt.tri {a b : WantB} (h : ¬ wLt a b) (k : ¬ wLt b a) : a.name = b.name := bl_inj (List.le_antisymm (List.not_lt.1 k) (List.not_lt.1 h))
theorem wLt.congr {a b c d : WantB} (h : a.name = c.name) (k : b.name = d.name) : wLt a b ↔ wLt c d := by unfold wLt; rw [h, k]
theorem name_inj {l : List WantB} (h : l.Pairwise wLt) {x y : WantB} (hx : x ∈ l) (hy : y ∈ l) (e : x.name = y.name) : x = y := by
  induction l with
  | nil => cases hx
  | cons z l ih =>
    have hl := List.pairwise_cons.1 h
    rcases List.mem_cons.1 hx with ex | hx'
    · rcases List.mem_cons.1 hy with ey | hy'
      · rw [ex, ey]
      · rw [ex] at e; exact absurd e (hl.1 y hy').ne
    · rcases List.mem_cons.1 hy with ey | hy'
      · rw [ey] at e; exact absurd e.symm (hl.1 x hx').ne
      · exact ih hl.2 hx' hy'
theorem findW_some : ∀ {l : List WantB} {n : ByteArray} {k : Nat}, findW n l = some k → ∃ hk : k < l.length, l[k].name = n
  | [], _, _, h => by cases h
  | w :: l, n, k, h => by
    unfold findW at h
    split at h
    · rename_i e; injection h with h; subst h; exact ⟨by simp, e⟩
    · cases hr : findW n l with
      | none => rw [hr] at h; cases h
      | some j =>
        rw [hr] at h
        simp only [Option.map_some, Option.some.injEq] at h
        subst h
        obtain ⟨h1, h2⟩ := findW_some hr
        exact ⟨by simp; exact h1, by simpa using h2⟩
theorem findW_none : ∀ {l : List WantB} {n : ByteArray}, findW n l = none ↔ ∀ x ∈ l, x.name ≠ n
  | [], n => by simp [findW]
  | w :: l, n => by
    unfold findW
    by_cases h : w.name = n
    · rw [if_pos h]; exact ⟨fun e => (by cases e), fun e => absurd h (e w (List.mem_cons_self ..))⟩
    · rw [if_neg h, Option.map_eq_none_iff, findW_none]
      constructor
      · intro e x hx
        rcases List.mem_cons.1 hx with rfl | hx
        · exact h
        · exact e x hx
      · exact fun e x hx => e x (List.mem_cons_of_mem _ hx)
theorem findW_isSome {l : List WantB} {n : ByteArray} : (findW n l).isSome = true ↔ ∃ x ∈ l, x.name = n := by
  cases h : findW n l with
  | none =>
    have := findW_none.1 h
    simp only [Option.isSome_none]
    exact ⟨fun e => (by cases e), fun ⟨x, hx, e⟩ => absurd e (this x hx)⟩
  | some k =>
    obtain ⟨h1, h2⟩ := findW_some h
    simp only [Option.isSome_some, true_iff]
    exact ⟨_, List.getElem_mem h1, h2⟩
theorem place_parts {l : List WantB} {w : WantB} (hl : l.Pairwise wLt) : ∃ A D, l = A ++ D ∧ l.take (placeW l w) = A ∧ l.drop (placeW l w) = D ∧ (∀ y ∈ A, wLt y w) ∧ ∀ y ∈ D, ¬ wLt y w := by
  refine ⟨l.takeWhile (fun x => decide (wLt x w)), l.dropWhile (fun x => decide (wLt x w)), List.takeWhile_append_dropWhile.symm, ?_, ?_, fun y hy => ?_, fun y hy => ?_⟩
  · unfold placeW
    conv => lhs; arg 2; rw [← List.takeWhile_append_dropWhile (p := fun x => decide (wLt x w)) (l := l)]
    rw [List.take_left]
  · unfold placeW
    conv => lhs; arg 2; rw [← List.takeWhile_append_dropWhile (p := fun x => decide (wLt x w)) (l := l)]
    rw [List.drop_left]
  · have := takeWhile_all hy
    simpa using this
  · cases hd : l.dropWhile (fun x => decide (wLt x w)) with
    | nil => rw [hd] at hy; cases hy
    | cons z t =>
      have hz : ¬ wLt z w := by
        have := List.head?_dropWhile_not (p := fun x => decide (wLt x w)) (l := l)
        rw [hd] at this
        simpa using this
      rw [hd] at hy
      rcases List.mem_cons.1 hy with rfl | hy
      · exact hz
      · have hs : (z :: t).Pairwise wLt := by rw [← hd]; exact hl.sublist (List.dropWhile_sublist _)
        exact fun e => hz (((List.pairwise_cons.1 hs).1 y hy).trans e)
/-- What a difference tells. -/
def DiffSays (a b : List WantB) (p : UInt8 × ByteArray) : Prop :=
  (p.1 = 45 ∧ (∃ x ∈ a, x.name = p.2) ∧ ∀ y ∈ b, y.name ≠ p.2) ∨ (p.1 = 43 ∧ (∃ y ∈ b, y.name = p.2) ∧ ∀ x ∈ a, x.name ≠ p.2) ∨ (p.1 = 42 ∧ ∃ x ∈ a, ∃ y ∈ b, x.name = p.2 ∧ y.name = p.2 ∧ x ≠ y)
def nLt (p q : UInt8 × ByteArray) : Prop := bl p.2 < bl q.2
theorem diff_low (a b : List WantB) (n : List UInt8) (ha : ∀ x ∈ a, n < bl x.name) (hb : ∀ y ∈ b, n < bl y.name) : ∀ p ∈ diffGo a b, n < bl p.2 := by
  fun_induction diffGo a b with
  | case1 => intro p hp; cases hp
  | case2 x a ih =>
    intro p hp
    rcases List.mem_cons.1 hp with rfl | hp
    · exact ha x (List.mem_cons_self ..)
    · exact ih (fun y hy => ha y (List.mem_cons_of_mem _ hy)) hb p hp
  | case3 y b ih =>
    intro p hp
    rcases List.mem_cons.1 hp with rfl | hp
    · exact hb y (List.mem_cons_self ..)
    · exact ih ha (fun z hz => hb z (List.mem_cons_of_mem _ hz)) p hp
  | case4 x a y b h ih =>
    intro p hp
    rcases List.mem_cons.1 hp with rfl | hp
    · exact ha x (List.mem_cons_self ..)
    · exact ih (fun z hz => ha z (List.mem_cons_of_mem _ hz)) hb p hp
  | case5 x a y b h1 h2 ih =>
    intro p hp
    rcases List.mem_cons.1 hp with rfl | hp
    · exact hb y (List.mem_cons_self ..)
    · exact ih ha (fun z hz => hb z (List.mem_cons_of_mem _ hz)) p hp
  | case6 x a y b h1 h2 ih =>
    intro p hp
    rcases List.mem_append.1 hp with hp | hp
    · by_cases e : x = y
      · rw [if_pos e] at hp; cases hp
      · rw [if_neg e] at hp
        obtain rfl := List.mem_singleton.1 hp
        exact ha x (List.mem_cons_self ..)
    · exact ih (fun z hz => ha z (List.mem_cons_of_mem _ hz)) (fun z hz => hb z (List.mem_cons_of_mem _ hz)) p hp
theorem diff_strict (a b : List WantB) (ha : a.Pairwise wLt) (hb : b.Pairwise wLt) : (diffGo a b).Pairwise nLt := by
  fun_induction diffGo a b with
  | case1 => exact List.Pairwise.nil
  | case2 x a ih => exact List.pairwise_cons.2 ⟨diff_low a [] _ (List.pairwise_cons.1 ha).1 (fun y hy => by cases hy), ih (List.pairwise_cons.1 ha).2 hb⟩
  | case3 y b ih => exact List.pairwise_cons.2 ⟨diff_low [] b _ (fun y hy => by cases hy) (List.pairwise_cons.1 hb).1, ih ha (List.pairwise_cons.1 hb).2⟩
  | case4 x a y b h ih =>
    refine List.pairwise_cons.2 ⟨diff_low a (y :: b) _ (List.pairwise_cons.1 ha).1 (fun z hz => ?_), ih (List.pairwise_cons.1 ha).2 hb⟩
    rcases List.mem_cons.1 hz with rfl | hz
    · exact h
    · exact h.trans ((List.pairwise_cons.1 hb).1 z hz)
  | case5 x a y b h1 h2 ih =>
    refine List.pairwise_cons.2 ⟨diff_low (x :: a) b _ (fun z hz => ?_) (List.pairwise_cons.1 hb).1, ih ha (List.pairwise_cons.1 hb).2⟩
    rcases List.mem_cons.1 hz with rfl | hz
    · exact h2
    · exact h2.trans ((List.pairwise_cons.1 ha).1 z hz)
  | case6 x a y b h1 h2 ih =>
    have en := wLt.tri h1 h2
    refine List.pairwise_append.2 ⟨by by_cases e : x = y <;> simp [e], ih (List.pairwise_cons.1 ha).2 (List.pairwise_cons.1 hb).2, fun p hp q hq => ?_⟩
    by_cases e : x = y
    · rw [if_pos e] at hp; cases hp
    · rw [if_neg e] at hp
      obtain rfl := List.mem_singleton.1 hp
      exact diff_low a b _ (List.pairwise_cons.1 ha).1 (fun z hz => by have := (List.pairwise_cons.1 hb).1 z hz; unfold wLt at this; rwa [← en] at this) q hq
theorem diff_says (a b : List WantB) (ha : a.Pairwise wLt) (hb : b.Pairwise wLt) : ∀ p, p ∈ diffGo a b ↔ DiffSays a b p := by
  fun_induction diffGo a b with
  | case1 => intro p; unfold DiffSays; simp
  | case2 x a ih =>
    intro p
    rw [List.mem_cons, ih (List.pairwise_cons.1 ha).2 hb p]
    unfold DiffSays
    simp only [List.not_mem_nil, false_and, exists_false, and_false, or_false, false_implies, implies_true, and_true, List.mem_cons]
    constructor
    · rintro (rfl | ⟨h1, z, hz, e⟩)
      · exact ⟨rfl, x, .inl rfl, rfl⟩
      · exact ⟨h1, z, .inr hz, e⟩
    · rintro ⟨h1, z, rfl | hz, e⟩
      · exact .inl (Prod.ext h1 e.symm)
      · exact .inr ⟨h1, z, hz, e⟩
  | case3 y b ih =>
    intro p
    rw [List.mem_cons, ih ha (List.pairwise_cons.1 hb).2 p]
    unfold DiffSays
    simp only [List.not_mem_nil, false_and, exists_false, and_false, or_false, false_or, false_implies, implies_true, and_true, List.mem_cons]
    constructor
    · rintro (rfl | ⟨h1, z, hz, e⟩)
      · exact ⟨rfl, y, .inl rfl, rfl⟩
      · exact ⟨h1, z, .inr hz, e⟩
    · rintro ⟨h1, z, rfl | hz, e⟩
      · exact .inl (Prod.ext h1 e.symm)
      · exact .inr ⟨h1, z, hz, e⟩
  | case4 x a y b h ih =>
    intro p
    have hxb : ∀ z ∈ y :: b, z.name ≠ x.name := fun z hz => by
      rcases List.mem_cons.1 hz with rfl | hz
      · exact h.ne.symm
      · exact (h.trans ((List.pairwise_cons.1 hb).1 z hz)).ne.symm
    rw [List.mem_cons, ih (List.pairwise_cons.1 ha).2 hb p]
    unfold DiffSays
    constructor
    · rintro (rfl | ⟨h1, ⟨z, hz, e⟩, h3⟩ | ⟨h1, h2, h3⟩ | ⟨h1, z, hz, u, hu, e1, e2, h3⟩)
      · exact .inl ⟨rfl, ⟨x, List.mem_cons_self .., rfl⟩, hxb⟩
      · exact .inl ⟨h1, ⟨z, List.mem_cons_of_mem _ hz, e⟩, h3⟩
      · refine .inr (.inl ⟨h1, h2, fun z hz => ?_⟩)
        rcases List.mem_cons.1 hz with rfl | hz
        · obtain ⟨u, hu, e⟩ := h2
          rw [← e]; exact (hxb u hu).symm
        · exact h3 z hz
      · exact .inr (.inr ⟨h1, z, List.mem_cons_of_mem _ hz, u, hu, e1, e2, h3⟩)
    · rintro (⟨h1, ⟨z, hz, e⟩, h3⟩ | ⟨h1, h2, h3⟩ | ⟨h1, z, hz, u, hu, e1, e2, h3⟩)
      · rcases List.mem_cons.1 hz with rfl | hz
        · exact .inl (Prod.ext h1 e.symm)
        · exact .inr (.inl ⟨h1, ⟨z, hz, e⟩, h3⟩)
      · exact .inr (.inr (.inl ⟨h1, h2, fun z hz => h3 z (List.mem_cons_of_mem _ hz)⟩))
      · rcases List.mem_cons.1 hz with rfl | hz
        · exact absurd (e2.trans e1.symm) (hxb u hu)
        · exact .inr (.inr (.inr ⟨h1, z, hz, u, hu, e1, e2, h3⟩))
  | case5 x a y b h1' h2' ih =>
    intro p
    have hya : ∀ z ∈ x :: a, z.name ≠ y.name := fun z hz => by
      rcases List.mem_cons.1 hz with rfl | hz
      · exact h2'.ne.symm
      · exact (h2'.trans ((List.pairwise_cons.1 ha).1 z hz)).ne.symm
    rw [List.mem_cons, ih ha (List.pairwise_cons.1 hb).2 p]
    unfold DiffSays
    constructor
    · rintro (rfl | ⟨h1, h2, h3⟩ | ⟨h1, ⟨z, hz, e⟩, h3⟩ | ⟨h1, z, hz, u, hu, e1, e2, h3⟩)
      · exact .inr (.inl ⟨rfl, ⟨y, List.mem_cons_self .., rfl⟩, hya⟩)
      · refine .inl ⟨h1, h2, fun z hz => ?_⟩
        rcases List.mem_cons.1 hz with rfl | hz
        · obtain ⟨u, hu, e⟩ := h2
          rw [← e]; exact (hya u hu).symm
        · exact h3 z hz
      · exact .inr (.inl ⟨h1, ⟨z, List.mem_cons_of_mem _ hz, e⟩, h3⟩)
      · exact .inr (.inr ⟨h1, z, hz, u, List.mem_cons_of_mem _ hu, e1, e2, h3⟩)
    · rintro (⟨h1, h2, h3⟩ | ⟨h1, ⟨z, hz, e⟩, h3⟩ | ⟨h1, z, hz, u, hu, e1, e2, h3⟩)
      · exact .inr (.inl ⟨h1, h2, fun z hz => h3 z (List.mem_cons_of_mem _ hz)⟩)
      · rcases List.mem_cons.1 hz with rfl | hz
        · exact .inl (Prod.ext h1 e.symm)
        · exact .inr (.inr (.inl ⟨h1, ⟨z, hz, e⟩, h3⟩))
      · rcases List.mem_cons.1 hu with rfl | hu
        · exact absurd (e1.trans e2.symm) (hya z hz)
        · exact .inr (.inr (.inr ⟨h1, z, hz, u, hu, e1, e2, h3⟩))
  | case6 x a y b h1' h2' ih =>
    intro p
    have en := wLt.tri h1' h2'
    have hxa : ∀ z ∈ a, z.name ≠ x.name := fun z hz => ((List.pairwise_cons.1 ha).1 z hz).ne.symm
    have hyb : ∀ z ∈ b, z.name ≠ x.name := fun z hz => by rw [en]; exact ((List.pairwise_cons.1 hb).1 z hz).ne.symm
    rw [List.mem_append, ih (List.pairwise_cons.1 ha).2 (List.pairwise_cons.1 hb).2 p]
    unfold DiffSays
    constructor
    · rintro (hp | ⟨h1, ⟨z, hz, e⟩, h3⟩ | ⟨h1, ⟨z, hz, e⟩, h3⟩ | ⟨h1, z, hz, u, hu, e1, e2, h3⟩)
      · by_cases e : x = y
        · rw [if_pos e] at hp; cases hp
        · rw [if_neg e] at hp
          obtain rfl := List.mem_singleton.1 hp
          exact .inr (.inr ⟨rfl, x, List.mem_cons_self .., y, List.mem_cons_self .., rfl, en.symm, e⟩)
      · refine .inl ⟨h1, ⟨z, List.mem_cons_of_mem _ hz, e⟩, fun u hu => ?_⟩
        rcases List.mem_cons.1 hu with rfl | hu
        · rw [← en, ← e]; exact (hxa z hz).symm
        · exact h3 u hu
      · refine .inr (.inl ⟨h1, ⟨z, List.mem_cons_of_mem _ hz, e⟩, fun u hu => ?_⟩)
        rcases List.mem_cons.1 hu with rfl | hu
        · rw [← e]; exact (hyb z hz).symm
        · exact h3 u hu
      · exact .inr (.inr ⟨h1, z, List.mem_cons_of_mem _ hz, u, List.mem_cons_of_mem _ hu, e1, e2, h3⟩)
    · rintro (⟨h1, ⟨z, hz, e⟩, h3⟩ | ⟨h1, ⟨z, hz, e⟩, h3⟩ | ⟨h1, z, hz, u, hu, e1, e2, h3⟩)
      · rcases List.mem_cons.1 hz with rfl | hz
        · exact absurd (en.symm.trans e) (h3 y (List.mem_cons_self ..))
        · exact .inr (.inl ⟨h1, ⟨z, hz, e⟩, fun u hu => h3 u (List.mem_cons_of_mem _ hu)⟩)
      · rcases List.mem_cons.1 hz with rfl | hz
        · exact absurd (en.trans e) (h3 x (List.mem_cons_self ..))
        · exact .inr (.inr (.inl ⟨h1, ⟨z, hz, e⟩, fun u hu => h3 u (List.mem_cons_of_mem _ hu)⟩))
      · rcases List.mem_cons.1 hz with rfl | hz
        · rcases List.mem_cons.1 hu with rfl | hu
          · refine .inl ?_
            rw [if_neg h3]
            exact List.mem_singleton.2 (Prod.ext h1 e1.symm)
          · exact absurd (e2.trans e1.symm) (hyb u hu)
        · rcases List.mem_cons.1 hu with rfl | hu
          · exact absurd (e1.trans (e2.symm.trans en.symm)) (hxa z hz)
          · exact .inr (.inr (.inr ⟨h1, z, hz, u, hu, e1, e2, h3⟩))
end Go.Proofs.YtgchgdkpipanjaaGreatDoor
