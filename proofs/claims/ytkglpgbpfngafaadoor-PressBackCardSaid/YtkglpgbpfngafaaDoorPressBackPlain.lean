/- Plain: what is pressed is read as its runs; opened it is what it was. -/
import Derived.Test.YtkglpgbpfngafaaDoorParse
namespace Go.Proofs.YtkglpgbpfngafaaDoor
open Go

/-- The value of digits, behind m. -/
def valD (m : Nat) (ds : List UInt8) : Nat := ds.foldl (fun m c => 10 * m + (c.toNat - 48)) m
def isD (c : UInt8) : Prop := 48 ≤ c.toNat ∧ c.toNat ≤ 57

theorem numGo_digits : ∀ (ds : List UInt8) (r : List UInt8) (k m : Nat), (∀ c ∈ ds, isD c) → k + ds.length ≤ 9 → (0 < k ∨ ∀ c, ds.head? = some c → c.toNat ≠ 48) →
    numGo (ds ++ r) k m = numGo r (k + ds.length) (valD m ds)
  | [], r, k, m, _, _, _ => rfl
  | c :: ds, r, k, m, hd, hk, h0 => by
    have hc := hd c (by simp)
    simp only [List.length_cons] at hk
    have h1 : k < 9 ∧ 48 ≤ c.toNat ∧ c.toNat ≤ 57 ∧ (0 < k ∨ c.toNat ≠ 48) := ⟨by omega, hc.1, hc.2, h0.imp id (fun h => h c rfl)⟩
    rw [List.cons_append]
    show (if _ then _ else _) = _
    rw [if_pos h1, numGo_digits ds r (k + 1) _ (fun x hx => hd x (by simp [hx])) (by omega) (.inl (by omega))]
    simp only [List.length_cons, valD, List.foldl_cons]
    rw [show k + 1 + ds.length = k + (ds.length + 1) by omega]
theorem numGo_stop (c : UInt8) (r : List UInt8) (k m : Nat) (h : ¬ isD c) : numGo (c :: r) k m = (m, k) := by
  show (if _ then _ else _) = _
  rw [if_neg (fun hh => h ⟨hh.2.1, hh.2.2.1⟩)]

theorem ofNat_digit (n : Nat) (h : n < 10) : (UInt8.ofNat (48 + n)).toNat = 48 + n := by
  rw [UInt8.toNat_ofNat']; omega
theorem decDigits_isD : ∀ n, ∀ c ∈ Lib.decDigits n, isD c := by
  intro n
  induction n using Nat.strongRecOn with
  | _ n ih =>
    by_cases h : n < 10
    · rw [decDigits_small h]
      intro c hc
      obtain rfl := List.mem_singleton.1 hc
      have := ofNat_digit n h
      exact ⟨by omega, by omega⟩
    · rw [decDigits_step h]
      intro c hc
      rcases List.mem_append.1 hc with hc | hc
      · exact ih (n / 10) (by omega) c hc
      · obtain rfl := List.mem_singleton.1 hc
        have := ofNat_digit (n % 10) (by omega)
        exact ⟨by omega, by omega⟩
theorem valD_dec : ∀ n, valD 0 (Lib.decDigits n) = n := by
  intro n
  induction n using Nat.strongRecOn with
  | _ n ih =>
    by_cases h : n < 10
    · rw [decDigits_small h]
      have := ofNat_digit n h
      simp only [valD, List.foldl_cons, List.foldl_nil]
      omega
    · rw [decDigits_step h]
      have h1 := ih (n / 10) (by omega)
      have h2 := ofNat_digit (n % 10) (by omega)
      simp only [valD, List.foldl_append, List.foldl_cons, List.foldl_nil] at h1 ⊢
      rw [h1]
      omega
theorem decDigits_ne (n : Nat) : Lib.decDigits n ≠ [] := by
  by_cases h : n < 10
  · rw [decDigits_small h]; simp
  · rw [decDigits_step h]; simp
theorem decDigits_head : ∀ n, 0 < n → ∀ c, (Lib.decDigits n).head? = some c → c.toNat ≠ 48 := by
  intro n
  induction n using Nat.strongRecOn with
  | _ n ih =>
    intro hn c hc
    by_cases h : n < 10
    · rw [decDigits_small h] at hc
      obtain rfl : UInt8.ofNat (48 + n) = c := Option.some.inj hc
      have := ofNat_digit n h
      omega
    · rw [decDigits_step h] at hc
      cases hd : Lib.decDigits (n / 10) with
      | nil => exact absurd hd (decDigits_ne _)
      | cons d ds =>
        rw [hd] at hc
        exact ih (n / 10) (by omega) (by omega) c (by rw [hd]; simpa using hc)
theorem decDigits_len_le : ∀ (j n : Nat), n < 10 ^ (j + 1) → (Lib.decDigits n).length ≤ j + 1
  | 0, n, h => by rw [decDigits_small (by simpa using h)]; simp
  | j + 1, n, h => by
    by_cases h1 : n < 10
    · rw [decDigits_small h1]; simp
    · rw [decDigits_step h1, List.length_append]
      have := decDigits_len_le j (n / 10) (by rw [Nat.pow_succ] at h; omega)
      simp only [List.length_cons, List.length_nil]; omega

theorem numGo_dec (n : Nat) (r : List UInt8) (h0 : 0 < n) (h : n < 1000000000) : numGo (Lib.decDigits n ++ 58 :: r) 0 0 = (n, (Lib.decDigits n).length) := by
  rw [numGo_digits _ _ 0 0 (decDigits_isD n) (by have := decDigits_len_le 8 n h; omega) (.inr (decDigits_head n h0)), numGo_stop _ _ _ _ (by unfold isD; decide), valD_dec]
  simp

theorem parse_runs : ∀ (R : List (Nat × UInt8)) (f p : Nat), (∀ r ∈ R, 0 < r.1 ∧ r.1 < 1000000000) → (R.flatMap runText).length < f → parse f (R.flatMap runText) p = (R, none)
  | [], f + 1, p, _, _ => by simp [parse]
  | (n, c) :: R, f + 1, p, hR, hf => by
    have hr := hR (n, c) (by simp)
    have e : ((n, c) :: R).flatMap runText = Lib.decDigits n ++ 58 :: (c :: R.flatMap runText) := by simp [runText]
    have hn := numGo_dec n (c :: R.flatMap runText) hr.1 hr.2
    have hl : 0 < (Lib.decDigits n).length := List.length_pos_iff.2 (decDigits_ne n)
    rw [e] at hf ⊢
    have ih := parse_runs R f (p + (Lib.decDigits n).length + 2) (fun x hx => hR x (by simp [hx])) (by simp only [List.length_append, List.length_cons] at hf; omega)
    simp only [parse]
    rw [if_neg (by simp), hn]
    simp only
    rw [if_neg (by omega), List.drop_left]
    simp [ih]
theorem runs_press (R : List (Nat × UInt8)) (hR : ∀ r ∈ R, 0 < r.1 ∧ r.1 < 1000000000) : runsL (R.flatMap runText) = (R, none) := parse_runs R _ 0 hR (Nat.lt_succ_self _)

theorem grp_sum : ∀ l, sumR (grp l) = l.length ∧ openR (grp l) = l ∧ ∀ r ∈ grp l, 0 < r.1
  | [] => ⟨rfl, rfl, fun r h => by cases h⟩
  | c :: cs => by
    obtain ⟨h1, h2, h3⟩ := grp_sum cs
    simp only [grp]
    cases h : grp cs with
    | nil =>
      rw [h] at h1 h2
      simp [sumR] at h1
      refine ⟨?_, ?_, ?_⟩
      · simp [sumR, ← h1]
      · simp [openR] at h2 ⊢; exact h2
      · intro r hr; simp at hr; subst hr; exact Nat.one_pos
    | cons q r =>
      obtain ⟨n, d⟩ := q
      rw [h] at h1 h2 h3
      simp only
      split
      · rename_i e
        subst e
        refine ⟨?_, ?_, ?_⟩
        · rw [sumR_cons] at h1 ⊢; simp only [List.length_cons] at *; omega
        · rw [← h2]; simp [openR, List.replicate_succ]
        · intro x hx
          rcases List.mem_cons.1 hx with rfl | hx
          · exact Nat.succ_pos _
          · exact h3 x (by simp [hx])
      · refine ⟨?_, ?_, ?_⟩
        · rw [sumR_cons, h1]; simp only [List.length_cons]; omega
        · conv => rhs; rw [← h2]
          simp [openR]
        · intro x hx
          rcases List.mem_cons.1 hx with rfl | hx
          · exact Nat.one_pos
          · exact h3 x hx
theorem sumR_mem {l : List (Nat × UInt8)} {r : Nat × UInt8} (h : r ∈ l) : r.1 ≤ sumR l := by
  induction l with
  | nil => cases h
  | cons a l ih =>
    rw [sumR_cons]
    rcases List.mem_cons.1 h with rfl | h
    · omega
    · have := ih h; omega
theorem grp_fine (l : List UInt8) (hl : l.length < 1000000000) : ∀ r ∈ grp l, 0 < r.1 ∧ r.1 < 1000000000 := fun r hr =>
  ⟨(grp_sum l).2.2 r hr, by have := sumR_mem hr; have := (grp_sum l).1; omega⟩

/-- What is pressed is read as its runs; two, one behind the other, as both. -/
theorem runs_of_press (l : List UInt8) (hl : l.length < 1000000000) : runsL (pressL l) = (grp l, none) := runs_press _ (grp_fine l hl)
theorem runs_of_two (l m : List UInt8) (hl : l.length < 1000000000) (hm : m.length < 1000000000) : runsL (pressL l ++ pressL m) = (grp l ++ grp m, none) := by
  rw [pressL, pressL, ← List.flatMap_append]
  exact runs_press _ (fun r hr => (List.mem_append.1 hr).elim (grp_fine l hl r) (grp_fine m hm r))
end Go.Proofs.YtkglpgbpfngafaaDoor
