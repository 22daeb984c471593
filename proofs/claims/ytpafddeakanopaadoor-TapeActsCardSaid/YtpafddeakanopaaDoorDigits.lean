/- Plain: decimal digits. -/
import Derived.Test.YtpafddeakanopaaDoorPressPlain
namespace Go.Proofs.YtpafddeakanopaaDoor
open Go

/-- The value of digits, behind m. -/
def valD (m : Nat) (ds : List UInt8) : Nat := ds.foldl (fun m c => 10 * m + (c.toNat - 48)) m
def isD (c : UInt8) : Prop := 48 ≤ c.toNat ∧ c.toNat ≤ 57

theorem ofNat_digit (n : Nat) (h : n < 10) : (UInt8.ofNat (48 + n)).toNat = 48 + n := by
  rw [UInt8.toNat_ofNat']; omega
theorem decDigits_isD : ∀ n, ∀ c ∈ Lib.decDigits n, isD c := by
  intro n
  induction n using Nat.strongRecOn with
  | _ n ih =>
    by_cases h : n < 10
    · rw [decDigits_small h]
      intro c hc
      obtain rfl := List.mem_singleton.1 hc
      have := ofNat_digit n h
      exact ⟨by omega, by omega⟩
    · rw [decDigits_step h]
      intro c hc
      rcases List.mem_append.1 hc with hc | hc
      · exact ih (n / 10) (by omega) c hc
      · obtain rfl := List.mem_singleton.1 hc
        have := ofNat_digit (n % 10) (by omega)
        exact ⟨by omega, by omega⟩
theorem valD_dec : ∀ n, valD 0 (Lib.decDigits n) = n := by
  intro n
  induction n using Nat.strongRecOn with
  | _ n ih =>
    by_cases h : n < 10
    · rw [decDigits_small h]
      have := ofNat_digit n h
      simp only [valD, List.foldl_cons, List.foldl_nil]
      omega
    · rw [decDigits_step h]
      have h1 := ih (n / 10) (by omega)
      have h2 := ofNat_digit (n % 10) (by omega)
      simp only [valD, List.foldl_append, List.foldl_cons, List.foldl_nil] at h1 ⊢
      rw [h1]
      omega
theorem decDigits_ne (n : Nat) : Lib.decDigits n ≠ [] := by
  by_cases h : n < 10
  · rw [decDigits_small h]; simp
  · rw [decDigits_step h]; simp
theorem decDigits_head : ∀ n, 0 < n → ∀ c, (Lib.decDigits n).head? = some c → c.toNat ≠ 48 := by
  intro n
  induction n using Nat.strongRecOn with
  | _ n ih =>
    intro hn c hc
    by_cases h : n < 10
    · rw [decDigits_small h] at hc
      obtain rfl : UInt8.ofNat (48 + n) = c := Option.some.inj hc
      have := ofNat_digit n h
      omega
    · rw [decDigits_step h] at hc
      cases hd : Lib.decDigits (n / 10) with
      | nil => exact absurd hd (decDigits_ne _)
      | cons d ds =>
        rw [hd] at hc
        exact ih (n / 10) (by omega) (by omega) c (by rw [hd]; simpa using hc)
theorem decDigits_len_le : ∀ (j n : Nat), n < 10 ^ (j + 1) → (Lib.decDigits n).length ≤ j + 1
  | 0, n, h => by rw [decDigits_small (by simpa using h)]; simp
  | j + 1, n, h => by
    by_cases h1 : n < 10
    · rw [decDigits_small h1]; simp
    · rw [decDigits_step h1, List.length_append]
      have := decDigits_len_le j (n / 10) (by rw [Nat.pow_succ] at h; omega)
      simp only [List.length_cons, List.length_nil]; omega

end Go.Proofs.YtpafddeakanopaaDoor
