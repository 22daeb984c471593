/- Plain: how a link falls into its parts, as the loops of the reference find it. No program in sight. -/
import Derived.Test.YtpafddeakanopaaGreatDoorPathPlain
namespace Go.Proofs.YtpafddeakanopaaGreatDoor
open Go

theorem lk_miss {l : List UInt8} (h : Lib.NoOcc l sepL l.length) : lkIs l = false := by
  have hi : Lib.index l sepL = -1 := Lib.index_past (by decide) h (by have : sepL.length = 3 := rfl; omega)
  unfold lkIs Lib.cut
  rw [hi]; rfl
theorem lk_hit {l : List UInt8} {i : Nat} (h : Lib.NoOcc l sepL i) (hi : i < l.length) (ho : Lib.occAt l sepL i = true) :
    lkIs l = true ∧ lkK l = l.take i ∧ lkR l = l.drop (i + 3) ∧ i + 3 ≤ l.length := by
  have hx : Lib.index l sepL = i := Lib.index_hit h (Nat.le_of_lt hi) ho
  have hr : i + 3 ≤ l.length := by
    have h1 : sepL <+: l.drop i := List.isPrefixOf_iff_prefix.1 ho
    have h2 := h1.length_le
    rw [List.length_drop] at h2
    have : sepL.length = 3 := rfl
    omega
  have e : Lib.cut l sepL = (l.take i, l.drop (i + 3), true) := by
    unfold Lib.cut
    rw [hx, if_pos (by omega)]
    simp; rfl
  exact ⟨by unfold lkIs; rw [e], by unfold lkK; rw [e], by unfold lkR; rw [e], hr⟩
theorem cut_miss {c : UInt8} {r : List UInt8} (h : c ∉ r) : Lib.cut r [c] = (r, [], false) := by
  have hi : Lib.index r [c] = -1 := by
    have hge := Lib.index_ge r [c]
    by_cases hm : Lib.index r [c] = -1
    · exact hm
    · obtain ⟨i, hi⟩ : ∃ i : Nat, Lib.index r [c] = i := ⟨(Lib.index r [c]).toNat, by omega⟩
      obtain ⟨_, _, h3⟩ := index_byte_hit hi
      exact absurd (by rw [h3]; simp) h
  unfold Lib.cut
  rw [hi]; rfl
theorem cut_hit {c : UInt8} {a b : List UInt8} (h : c ∉ a) : Lib.cut (a ++ c :: b) [c] = (a, b, true) := by
  have hx : Lib.index (a ++ c :: b) [c] = a.length := by
    have hge := Lib.index_ge (a ++ c :: b) [c]
    by_cases hm : Lib.index (a ++ c :: b) [c] = -1
    · exact absurd (by simp) (index_byte_none hm)
    · obtain ⟨i, hi⟩ : ∃ i : Nat, Lib.index (a ++ c :: b) [c] = i := ⟨(Lib.index (a ++ c :: b) [c]).toNat, by omega⟩
      obtain ⟨h1, h2, h3⟩ := index_byte_hit hi
      have hle : i ≤ a.length := by
        by_cases hq : i ≤ a.length
        · exact hq
        · exfalso; apply h1
          rw [List.take_append, List.mem_append]
          right
          rw [show i - a.length = (i - a.length - 1) + 1 by omega, List.take_succ_cons]; simp
      have hge2 : a.length ≤ i := by
        by_cases hq : a.length ≤ i
        · exact hq
        · exfalso
          have hg : (a ++ c :: b)[i]? = some c := by
            rw [h3, List.getElem?_append_right (by simp; omega)]
            rw [List.length_take, show min i (a ++ c :: b).length = i by omega, Nat.sub_self]; rfl
          rw [List.getElem?_append_left (by omega)] at hg
          exact h (List.mem_of_getElem? hg)
      omega
  unfold Lib.cut
  rw [hx, if_pos (by omega)]
  simp
theorem lk_noslash {l : List UInt8} (h : (47 : UInt8) ∉ lkR l) : lkAlso l = false := by unfold lkAlso; rw [cut_miss h]
theorem lk_slash {l a b : List UInt8} (e : lkR l = a ++ 47 :: b) (h : (47 : UInt8) ∉ a) : lkAlso l = true ∧ lkH l = a ∧ lkP l = b := by
  unfold lkAlso lkH lkP; rw [e, cut_hit h]; exact ⟨rfl, rfl, rfl⟩

/-- What is without its last slash. -/
theorem trim_last (l : List UInt8) : Lib.trimSuffix l [47] = if l.getLast? = some 47 then l.dropLast else l := by
  by_cases h : l.getLast? = some 47
  · obtain ⟨r, rfl⟩ : ∃ r, l = r ++ [47] := by
      cases l with
      | nil => cases h
      | cons x t =>
        have := List.dropLast_concat_getLast (l := x :: t) (by simp)
        refine ⟨(x :: t).dropLast, ?_⟩
        rw [List.getLast?_eq_some_getLast (by simp)] at h
        rw [← Option.some.inj h]; exact this.symm
    have hs : Lib.hasSuffix (r ++ [47]) [47] = true := List.isSuffixOf_iff_suffix.2 ⟨r, rfl⟩
    unfold Lib.trimSuffix
    rw [if_pos h, hs, List.dropLast_concat]; simp
  · have hs : Lib.hasSuffix l [47] = false := by
      cases hq : Lib.hasSuffix l [47] with
      | false => rfl
      | true =>
        obtain ⟨r, hr⟩ := List.isSuffixOf_iff_suffix.1 hq
        exact absurd (by rw [← hr]; simp) h
    unfold Lib.trimSuffix
    rw [if_neg h, hs]; rfl

/-- The last piece of a text. -/
def lastP (l : List UInt8) : List UInt8 := (cutL 47 l).getLast?.getD []
theorem lastP_app (a b : List UInt8) : lastP (a ++ 47 :: b) = lastP b := by
  unfold lastP
  rw [cutL_app, List.getLast?_append]
  cases h : (cutL 47 b).getLast? with
  | none => exact absurd (List.getLast?_eq_none_iff.1 h) (cutL_ne 47 b)
  | some x => rfl
theorem lastP_no {l : List UInt8} (h : (47 : UInt8) ∉ l) : lastP l = l := by
  unfold lastP
  rw [cutL_no h]; rfl
theorem occ_one {l : List UInt8} {j : Nat} (c : UInt8) : Lib.occAt l [c] j = true ↔ l[j]? = some c := by
  unfold Lib.occAt
  rw [List.isPrefixOf_iff_prefix, ← List.head?_drop]
  cases l.drop j with
  | nil => simp
  | cons x t => simp [List.cons_prefix_cons, eq_comm]
theorem last_index {l : List UInt8} (hn : (47 : UInt8) ∈ l) : ∃ k : Nat, Lib.lastIndex l [47] = k ∧ k < l.length ∧ l.drop (k + 1) = lastP l := by
  obtain ⟨i, hi, hx⟩ := List.getElem_of_mem hn
  have hl : 1 ≤ l.length := by omega
  have e : Lib.lastIndex l [47] = Lib.lastOcc l [47] l.length := by
    unfold Lib.lastIndex
    rw [if_pos (by simpa using hl)]
    congr 1; simp; omega
  rw [e]
  rcases Lib.lastOcc_spec l [47] l.length with ⟨_, h⟩ | ⟨k, hk, h1, h2, h3⟩
  · have := h i hi
    rw [(occ_one 47).2 (by rw [List.getElem?_eq_getElem hi, hx])] at this
    cases this
  · refine ⟨k, h1, hk, ?_⟩
    have hk47 : l[k] = 47 := by
      have := (occ_one 47).1 h2
      rw [List.getElem?_eq_getElem hk] at this
      exact Option.some.inj this
    have hd : (47 : UInt8) ∉ l.drop (k + 1) := by
      intro hm
      obtain ⟨j, hj, hx⟩ := List.getElem_of_mem hm
      rw [List.getElem_drop] at hx
      rw [List.length_drop] at hj
      have := h3 (k + 1 + j) (by omega) (by omega)
      rw [(occ_one 47).2 (by rw [List.getElem?_eq_getElem (by omega), hx])] at this
      cases this
    have hs : l = l.take k ++ 47 :: l.drop (k + 1) := by
      conv => lhs; rw [← List.take_append_drop k l, List.drop_eq_getElem_cons hk, hk47]
    conv => rhs; rw [hs]
    rw [lastP_app, lastP_no hd]
end Go.Proofs.YtpafddeakanopaaGreatDoor
