/- Held trees, in plain Lean. -/
import Derived.Test.YtgchgdkpipanjaaGreatDoorJPackedUp
import Derived.Lib.Slices
namespace Go.Proofs.YtgchgdkpipanjaaGreatDoor
open Go

/-- What is held: how many at most; sums and trees, as they came. -/
structure HeldB where
  most : Nat
  trees : List (Int × List FileB)
def HeldB.sums (h : HeldB) : List Int := h.trees.map (·.1)
/-- The place of a number. -/
def ixOf (n : Int) : List Int → Option Nat
  | [] => none
  | x :: l => if x = n then some 0 else (ixOf n l).map (· + 1)
def treeSum (l : List FileB) : Int := ((sumL (packT l) : Nat) : Int)
def newH (most : Int) : HeldB := ⟨min (max most 0).toNat 40, []⟩
/-- The tree of a number. -/
def getL : List (Int × List FileB) → Int → Option (List FileB)
  | [], _ => none
  | p :: L, n => if p.1 = n then some p.2 else getL L n
def putH (h : HeldB) (l : List FileB) : Er × Int × HeldB :=
  if (treeEr l).code ≠ 0 then (treeEr l, 0, h)
  else if h.most = 0 then (⟨8, none⟩, 0, h)
  else if (ixOf (treeSum l) h.sums).isSome = true then (⟨0, none⟩, treeSum l, h)
  else (⟨0, none⟩, treeSum l, { h with trees := h.trees.drop (if h.most ≤ h.trees.length then 1 else 0) ++ [(treeSum l, l)] })
def dropH (h : HeldB) (n : Int) : Nat × HeldB := match ixOf n h.sums with
  | none => (6, h)
  | some k => (0, { h with trees := h.trees.eraseIdx k })

theorem ixOf_some : ∀ {l : List Int} {n : Int} {k : Nat}, ixOf n l = some k → ∃ hk : k < l.length, l[k] = n ∧ ∀ j (hj : j < k), l[j]'(by omega) ≠ n
  | [], _, _, h => by cases h
  | x :: l, n, k, h => by
    unfold ixOf at h
    split at h
    · rename_i hx
      injection h with h
      subst h
      exact ⟨by simp, hx, fun j hj => absurd hj (Nat.not_lt_zero _)⟩
    · rename_i hx
      cases hr : ixOf n l with
      | none => rw [hr] at h; cases h
      | some m =>
        rw [hr] at h
        simp only [Option.map_some, Option.some.injEq] at h
        obtain ⟨h1, h2, h3⟩ := ixOf_some hr
        subst h
        refine ⟨by simp; exact h1, by simpa using h2, fun j hj => ?_⟩
        cases j with
        | zero => simpa using hx
        | succ j => simpa using h3 j (by omega)
theorem ixOf_none : ∀ {l : List Int} {n : Int}, ixOf n l = none → ∀ x ∈ l, x ≠ n
  | [], _, _ => fun x hx => by cases hx
  | x :: l, n, h => by
    unfold ixOf at h
    split at h
    · cases h
    · rename_i hx
      have hr : ixOf n l = none := by
        cases hr : ixOf n l with
        | none => rfl
        | some m => rw [hr] at h; cases h
      intro y hy
      rcases List.mem_cons.1 hy with rfl | hy
      · exact hx
      · exact ixOf_none hr y hy
theorem ixOf_of : ∀ {l : List Int} {k : Nat} (hk : k < l.length), (∀ j (hj : j < k), l[j]'(by omega) ≠ l[k]) → ixOf l[k] l = some k
  | x :: l, 0, _, _ => by unfold ixOf; rw [if_pos (by simp)]
  | x :: l, k + 1, hk, h => by
    unfold ixOf
    have h0 := h 0 (by omega)
    rw [List.getElem_cons_succ, if_neg (by simpa using h0), ixOf_of (by simpa using hk) (fun j hj => by simpa using h (j + 1) (by omega))]
    rfl
theorem ixOf_end {l : List Int} {n : Int} (h : ∀ x ∈ l, x ≠ n) : ixOf n l = none := by
  cases hx : ixOf n l with
  | none => rfl
  | some k =>
    obtain ⟨h1, h2, _⟩ := ixOf_some hx
    exact absurd h2 (h _ (List.getElem_mem h1))
theorem ixOf_none_iff {l : List Int} {n : Int} : ixOf n l = none ↔ n ∉ l :=
  ⟨fun h hm => ixOf_none h n hm rfl, fun h => ixOf_end fun _ hx e => h (e ▸ hx)⟩
theorem ixOf_isSome {l : List Int} {n : Int} : (ixOf n l).isSome = true ↔ n ∈ l := by
  cases h : ixOf n l with
  | none => simp; exact ixOf_none_iff.1 h
  | some k => obtain ⟨h1, h2, _⟩ := ixOf_some h; simp; exact h2 ▸ List.getElem_mem h1
/-- Right: its sums are different, and of its trees; no more than may be. -/
structure HeldOk (h : HeldB) : Prop where
  few : h.most ≤ 40
  len : h.trees.length ≤ h.most
  nodup : h.sums.Nodup
  right : ∀ p ∈ h.trees, (treeEr p.2).code = 0 ∧ p.1 = treeSum p.2
theorem newH_ok (m : Int) : HeldOk (newH m) := ⟨Nat.min_le_right _ _, Nat.zero_le _, List.nodup_nil, fun p hp => by cases hp⟩
theorem putH_ok {h : HeldB} (l : List FileB) (k : HeldOk h) : HeldOk (putH h l).2.2 := by
  unfold putH
  split
  · exact k
  · rename_i hc
    split
    · exact k
    · split
      · exact k
      · rename_i h0 hx
        have hn : treeSum l ∉ h.sums := fun hm => hx (ixOf_isSome.2 hm)
        have e : ({ h with trees := h.trees.drop (if h.most ≤ h.trees.length then 1 else 0) ++ [(treeSum l, l)] } : HeldB).sums = h.sums.drop (if h.most ≤ h.trees.length then 1 else 0) ++ [treeSum l] := by
          unfold HeldB.sums; simp
        refine ⟨k.few, ?_, ?_, fun p hp => ?_⟩
        · have := k.len
          show (h.trees.drop _ ++ [_]).length ≤ h.most
          rw [List.length_append, List.length_drop]
          split <;> simp <;> omega
        · rw [e]
          refine List.nodup_append.2 ⟨k.nodup.sublist (List.drop_sublist _ _), by simp, fun a ha b hb => ?_⟩
          simp only [List.mem_singleton] at hb
          subst hb
          exact fun e => hn (e ▸ List.mem_of_mem_drop ha)
        · rcases List.mem_append.1 hp with hp | hp
          · exact k.right p (List.mem_of_mem_drop hp)
          · simp only [List.mem_singleton] at hp
            subst hp
            exact ⟨by simpa using hc, rfl⟩
theorem dropH_ok {h : HeldB} (n : Int) (k : HeldOk h) : HeldOk (dropH h n).2 := by
  unfold dropH
  split
  · exact k
  · refine ⟨k.few, ?_, ?_, fun p hp => k.right p (List.mem_of_mem_eraseIdx hp)⟩
    · exact Nat.le_trans (List.length_eraseIdx_le _ _) k.len
    · refine k.nodup.sublist ?_
      unfold HeldB.sums
      exact (List.eraseIdx_sublist _ _).map _
theorem getL_none : ∀ {L : List (Int × List FileB)} {n : Int}, n ∉ L.map (·.1) → getL L n = none
  | [], _, _ => rfl
  | p :: L, n, h => by
    rw [List.map_cons, List.mem_cons, not_or] at h
    unfold getL
    rw [if_neg (fun e => h.1 e.symm)]
    exact getL_none h.2
theorem getL_some : ∀ {L : List (Int × List FileB)} {n : Int} {l : List FileB}, getL L n = some l → (n, l) ∈ L
  | [], _, _, h => by cases h
  | p :: L, n, l, h => by
    unfold getL at h
    split at h
    · rename_i e
      injection h with h
      subst e; subst h
      exact List.mem_cons_self ..
    · exact List.mem_cons_of_mem _ (getL_some h)
theorem getL_app : ∀ {L : List (Int × List FileB)} {s : Int} {l : List FileB} (n : Int), s ∉ L.map (·.1) → getL (L ++ [(s, l)]) n = if n = s then some l else getL L n
  | [], s, l, n, _ => by
    show (if s = n then some l else none) = _
    by_cases h : n = s
    · rw [if_pos h.symm, if_pos h]
    · rw [if_neg (fun e => h e.symm), if_neg h]; rfl
  | p :: L, s, l, n, h => by
    rw [List.map_cons, List.mem_cons, not_or] at h
    show (if p.1 = n then some p.2 else getL (L ++ [(s, l)]) n) = _
    rw [getL_app n h.2]
    by_cases hp : p.1 = n
    · rw [if_pos hp, if_neg (fun e : n = s => h.1 (hp.trans e).symm)]
      show _ = (if p.1 = n then some p.2 else _)
      rw [if_pos hp]
    · rw [if_neg hp]
      split
      · rfl
      · show _ = (if p.1 = n then some p.2 else _)
        rw [if_neg hp]
theorem getL_erase : ∀ {L : List (Int × List FileB)} {k : Nat} (hk : k < L.length) (n : Int), (L.map (·.1)).Nodup → getL (L.eraseIdx k) n = if n = L[k].1 then none else getL L n
  | p :: L, 0, _, n, h => by
    rw [List.map_cons, List.nodup_cons] at h
    show getL L n = if n = p.1 then none else (if p.1 = n then some p.2 else getL L n)
    by_cases hn : n = p.1
    · rw [if_pos hn, hn]; exact getL_none h.1
    · rw [if_neg hn, if_neg (fun e => hn e.symm)]
  | p :: L, k + 1, hk, n, h => by
    rw [List.map_cons, List.nodup_cons] at h
    have hk' : k < L.length := by simpa using hk
    show (if p.1 = n then some p.2 else getL (L.eraseIdx k) n) = if n = L[k].1 then none else (if p.1 = n then some p.2 else getL L n)
    rw [getL_erase hk' n h.2]
    by_cases hp : p.1 = n
    · rw [if_pos hp, if_pos hp, if_neg]
      intro e
      exact h.1 (by rw [hp, e]; exact List.mem_map.2 ⟨L[k], List.getElem_mem hk', rfl⟩)
    · rw [if_neg hp, if_neg hp]
theorem getL_tail {L : List (Int × List FileB)} (hk : 0 < L.length) (n : Int) (h : (L.map (·.1)).Nodup) : getL (L.drop 1) n = if n = L[0].1 then none else getL L n := by
  cases L with
  | nil => exact absurd hk (Nat.lt_irrefl _)
  | cons p L => exact getL_erase (L := p :: L) (k := 0) (by simp) n h
def ixInt : Option Nat → Int
  | some k => k
  | none => -1
theorem idx_ix (n : Int) : ∀ (zs : List Int) (i : Nat), Lib.idxFrom zs n i = match ixOf n zs with | some k => ((i + k : Nat) : Int) | none => -1
  | [], i => rfl
  | z :: zs, i => by
    unfold Lib.idxFrom ixOf
    by_cases h : z = n
    · rw [if_pos h, if_pos h]; rfl
    · rw [if_neg h, if_neg h, idx_ix n zs (i + 1)]
      cases ixOf n zs with
      | none => rfl
      | some k => show ((i + 1 + k : Nat) : Int) = ((i + (k + 1) : Nat) : Int); omega
theorem idxOf_ix (n : Int) (zs : List Int) : Lib.idxOf zs n = ixInt (ixOf n zs) := by
  unfold Lib.idxOf
  rw [idx_ix]
  cases ixOf n zs with
  | none => rfl
  | some k => show ((0 + k : Nat) : Int) = (k : Int); omega
theorem sums_len (h : HeldB) : h.sums.length = h.trees.length := by unfold HeldB.sums; simp
end Go.Proofs.YtgchgdkpipanjaaGreatDoor
