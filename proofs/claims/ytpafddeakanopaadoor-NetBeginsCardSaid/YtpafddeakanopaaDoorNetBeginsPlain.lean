/- chandlerylaw2.NetBegins, in plain Lean: what was put last at a link. -/
import Derived.Test.YtpafddeakanopaaDoorNetPlain
import Derived.Test.YtpafddeakanopaaDoorRefLinkPlain
import Derived.Test.YtpafddeakanopaaDoorPressPlain
namespace Go.Proofs.YtpafddeakanopaaDoor
open Go

/-- The last index below k at which u stands. -/
def lastTo (U : List ByteArray) (u : ByteArray) : Nat → Option Nat
  | 0 => none
  | k + 1 => if U[k]? = some u then some k else lastTo U u k
def lastInt : Option Nat → Int
  | some j => j
  | none => -1
theorem lastTo_lt {U : List ByteArray} {u : ByteArray} : ∀ {k j : Nat}, lastTo U u k = some j → j < k ∧ U[j]? = some u
  | 0, j, h => by cases h
  | k + 1, j, h => by
    unfold lastTo at h
    split at h
    · cases h; exact ⟨Nat.lt_succ_self _, by assumption⟩
    · obtain ⟨h1, h2⟩ := lastTo_lt h; exact ⟨by omega, h2⟩
theorem lastTo_app {U : List ByteArray} {u x : ByteArray} : ∀ {k : Nat}, k ≤ U.length → lastTo (U ++ [x]) u k = lastTo U u k
  | 0, _ => rfl
  | k + 1, h => by
    unfold lastTo
    rw [List.getElem?_append_left (by omega), lastTo_app (by omega)]
theorem lastTo_succ (U : List ByteArray) (u : ByteArray) (k : Nat) : lastTo U u (k + 1) = if U[k]? = some u then some k else lastTo U u k := rfl
theorem lastTo_snoc (U : List ByteArray) (u x : ByteArray) : lastTo (U ++ [x]) u (U ++ [x]).length = if x = u then some U.length else lastTo U u U.length := by
  rw [List.length_append]
  show lastTo (U ++ [x]) u (U.length + 1) = _
  rw [lastTo_succ, List.getElem?_append_right (Nat.le_refl _), Nat.sub_self, lastTo_app (Nat.le_refl _)]
  simp

/-- What the law has noted of what was put. -/
def Told (n : NetB) (U T : List ByteArray) : Prop := T.length = U.length ∧ ∀ u x, siteAt u n.sites = some x → ∃ j, lastTo U u U.length = some j ∧ T[j]? = some x.text
theorem Told.nil : Told ⟨[], [], 0⟩ [] [] := ⟨rfl, fun u x h => by cases h⟩
theorem Told.sites {n n' : NetB} {U T : List ByteArray} (h : Told n U T) (hs : ∀ u x, siteAt u n'.sites = some x → ∃ y, siteAt u n.sites = some y ∧ y.text = x.text) : Told n' U T := by
  refine ⟨h.1, fun u x hx => ?_⟩
  obtain ⟨y, hy, e⟩ := hs u x hx
  obtain ⟨j, h1, h2⟩ := h.2 u y hy
  exact ⟨j, h1, by rw [h2, e]⟩
theorem Told.put {n n' : NetB} {U T : List ByteArray} {u s : ByteArray} (h : Told n U T) (hp : putN n u s = (0, n')) : Told n' (U ++ [u]) (T ++ [s]) := by
  have hs : ∀ v x, siteAt v n'.sites = some x → (v = u ∧ x.text = s) ∨ (v ≠ u ∧ siteAt v n.sites = some x) := by
    intro v x hx
    unfold putN at hp
    split at hp
    · rename_i hne
      injection hp with h1 _
      exact absurd h1 hne
    · split at hp
      · injection hp with h1 _; cases h1
      · split at hp
        · rename_i y hy
          injection hp with _ h2
          subst h2
          have hx2 : siteAt v (setSite u s (-1) n.sites) = some x := hx
          rw [siteAt_setSite] at hx2
          split at hx2
          · rename_i hv
            rw [hy] at hx2
            cases hx2
            exact .inl ⟨hv, rfl⟩
          · rename_i hv
            exact .inr ⟨hv, hx2⟩
        · rename_i hy
          split at hp
          · injection hp with h1 _; cases h1
          · injection hp with _ h2
            subst h2
            have hx2 : siteAt v (n.sites ++ [⟨u, s, -1⟩]) = some x := hx
            rw [siteAt_app] at hx2
            by_cases hv : v = u
            · subst hv
              rw [hy] at hx2
              simp at hx2
              exact .inl ⟨rfl, by rw [← hx2]⟩
            · have hne : ¬ u = v := fun e => hv e.symm
              refine .inr ⟨hv, ?_⟩
              cases hsv : siteAt v n.sites with
              | none => rw [hsv] at hx2; simp [hne] at hx2
              | some y => rw [hsv] at hx2; simpa using hx2
  refine ⟨by rw [List.length_append, List.length_append, h.1]; rfl, fun v x hx => ?_⟩
  rw [lastTo_snoc]
  rcases hs v x hx with ⟨rfl, e⟩ | ⟨hv, hx2⟩
  · refine ⟨U.length, if_pos rfl, ?_⟩
    rw [List.getElem?_append_right (by rw [h.1]; exact Nat.le_refl _), h.1, Nat.sub_self, e]; rfl
  · obtain ⟨j, h1, h2⟩ := h.2 v x hx2
    refine ⟨j, by rw [if_neg (fun e => hv e.symm)]; exact h1, ?_⟩
    rw [List.getElem?_append_left (Array.getElem?_eq_some_iff.1 (by simpa using h2)).1]
    exact h2
theorem Told.host {n : NetB} {U T : List ByteArray} (h : Told n U T) (u : ByteArray) (on : Bool) : Told (hostN n u on).2 U T :=
  h.sites fun v x hx => ⟨x, by unfold hostN at hx; split at hx <;> exact hx, rfl⟩
theorem Told.get {n : NetB} {U T : List ByteArray} (h : Told n U T) (u : ByteArray) : Told (getN n u).2.2 U T :=
  h.sites fun v x hx => ⟨x, by
    unfold getN at hx
    split at hx
    · exact hx
    · split at hx
      · exact hx
      · split at hx <;> exact hx, rfl⟩
theorem Told.cut {n : NetB} {U T : List ByteArray} (h : Told n U T) (u : ByteArray) (k : Int) : Told (cutN n u k).2 U T :=
  h.sites fun v x hx => by
    unfold cutN at hx
    split at hx
    · exact ⟨x, hx, rfl⟩
    · split at hx
      · exact ⟨x, hx, rfl⟩
      · have hx2 : siteAt v (setCut u k n.sites) = some x := hx
        rw [siteAt_setCut] at hx2
        split at hx2
        · rename_i hv
          subst hv
          cases hy : siteAt v n.sites with
          | none => rw [hy] at hx2; cases hx2
          | some y => rw [hy] at hx2; cases hx2; exact ⟨y, rfl, rfl⟩
        · exact ⟨x, hx2, rfl⟩

/-- A host's own link: its host is that. -/
theorem lkH_host (u : List UInt8) (hp : partB u = true) : lkH (104 :: 116 :: 116 :: 112 :: 58 :: 47 :: 47 :: (u ++ [47, 120])) = u := by
  have hno : (47 : UInt8) ∉ u := by
    intro hm
    unfold partB at hp
    simp only [Bool.and_eq_true, List.all_eq_true] at hp
    have := hp.2 47 hm
    revert this
    decide
  obtain ⟨_, _, hr, _⟩ := lk_hit (l := 104 :: 116 :: 116 :: 112 :: 58 :: 47 :: 47 :: (u ++ [47, 120])) (i := 4) (by
    refine (((((Lib.NoOcc.zero _ _).succ ?_).succ ?_).succ ?_).succ ?_) <;> rfl) (by simp) rfl
  exact (lk_slash (a := u) (b := [120]) (by rw [hr]; simp) hno).2.1
theorem cutText_pre (s : ByteArray) (c : Int) : ∃ r, bl s = cutText s c ++ r := by
  unfold cutText
  split
  · exact ⟨_, (List.take_append_drop _ _).symm⟩
  · exact ⟨[], (List.append_nil _).symm⟩
/-- What Get answers, told. -/
theorem get_told {n : NetB} {U T : List ByteArray} {u : ByteArray} {l : List UInt8} {n' : NetB} (h : Told n U T) (hg : getN n u = (l, 0, n')) : ∃ j y r, lastTo U u U.length = some j ∧ T[j]? = some y ∧ bl y = l ++ r := by
  unfold getN at hg
  split at hg
  · rename_i hne
    injection hg with _ h2
    injection h2 with h2 _
    exact absurd h2 hne
  · split at hg
    · injection hg with _ h2
      injection h2 with h2 _
      cases h2
    · split at hg
      · injection hg with _ h2
        injection h2 with h2 _
        cases h2
      · rename_i x hx
        injection hg with h1 _
        obtain ⟨j, h3, h4⟩ := h.2 u x hx
        obtain ⟨r, hr⟩ := cutText_pre x.text x.cut
        exact ⟨j, x.text, r, h3, h4, by rw [← h1, hr]⟩
end Go.Proofs.YtpafddeakanopaaDoor
