/- Plain: a number in digits, without needless zeros. -/
import Derived.Test.YtpafddeakanopaaDoorDigits
import Derived.Lib.AtoiAllCases
namespace Go.Proofs.YtpafddeakanopaaDoor
open Go

/-- The number that the digits tell, where they are so many at most and are written without needless zeros. -/
def numOf (l : List UInt8) (most : Nat) : Option Nat := if l.length ≤ most ∧ Lib.decDigits (valD 0 l) = l then some (valD 0 l) else none

theorem numOf_dec (n most : Nat) (h : (Lib.decDigits n).length ≤ most) : numOf (Lib.decDigits n) most = some n := by
  unfold numOf; rw [if_pos ⟨h, by rw [valD_dec]⟩, valD_dec]
theorem numOf_some {l : List UInt8} {most n : Nat} (h : numOf l most = some n) : l = Lib.decDigits n ∧ l.length ≤ most := by
  unfold numOf at h
  split at h
  · rename_i hc
    simp only [Option.some.injEq] at h
    rw [h] at hc; exact ⟨hc.2.symm, hc.1⟩
  · cases h
theorem numOf_none {l : List UInt8} {most : Nat} (h : numOf l most = none) (n : Nat) (hl : l.length ≤ most) : l ≠ Lib.decDigits n := by
  rintro rfl
  rw [numOf_dec n most hl] at h; cases h

theorem valD_lt : ∀ (l : List UInt8) (m : Nat), (∀ c ∈ l, isD c) → valD m l < (m + 1) * 10 ^ l.length
  | [], m, _ => by simp [valD]
  | c :: l, m, h => by
    have hc := h c (by simp)
    have ih := valD_lt l (10 * m + (c.toNat - 48)) (fun x hx => h x (by simp [hx]))
    show valD (10 * m + (c.toNat - 48)) l < _
    refine Nat.lt_of_lt_of_le ih ?_
    rw [List.length_cons, Nat.pow_succ, Nat.mul_comm (10 ^ l.length) 10, ← Nat.mul_assoc]
    exact Nat.mul_le_mul_right _ (by have := hc.2; omega)

theorem parse_digits : ∀ (l : List UInt8) (m : Nat), (∀ c ∈ l, isD c) → (m + 1) * 10 ^ l.length ≤ 1000000000000000000 → Lib.parseUint10 m l = .ok (valD m l)
  | [], m, _, _ => rfl
  | c :: l, m, h, hb => by
    have hc := h c (by simp)
    have hp : 1 ≤ 10 ^ l.length := Nat.one_le_pow _ _ (by decide)
    rw [List.length_cons, Nat.pow_succ, Nat.mul_comm (10 ^ l.length) 10, ← Nat.mul_assoc] at hb
    have h2 : (m + 1) * 10 ≤ 1000000000000000000 := Nat.le_trans (Nat.le_mul_of_pos_right _ hp) hb
    have hb2 : (10 * m + (c.toNat - 48) + 1) * 10 ^ l.length ≤ 1000000000000000000 := Nat.le_trans (Nat.mul_le_mul_right _ (by have := hc.2; omega)) hb
    have ih := parse_digits l (10 * m + (c.toNat - 48)) (fun x hx => h x (by simp [hx])) hb2
    have hcc : 48 ≤ c.toNat ∧ c.toNat ≤ 57 := hc
    show (if _ then (if _ then _ else if _ then _ else Lib.parseUint10 (m * 10 + (c.toNat - 48)) l) else _) = _
    rw [if_pos hcc, if_neg (by omega), if_neg (by omega), Nat.mul_comm m 10, ih]; rfl

theorem atoi_dec (n : Nat) (hn : (Lib.decDigits n).length ≤ 18) : Lib.atoiAll (Lib.decDigits n) = .ok (n : Int) := by
  have hd := decDigits_isD n
  have hne := decDigits_ne n
  have hv := valD_dec n
  have hlt := valD_lt (Lib.decDigits n) 0 hd
  generalize Lib.decDigits n = l at *
  cases l with
  | nil => exact absurd rfl hne
  | cons c l =>
    have hc := hd c (by simp)
    have hp : 10 ^ (c :: l).length ≤ 10 ^ 18 := Nat.pow_le_pow_right (by decide) hn
    rw [Lib.atoiAll_plain c l (by have := hc.1; omega) (by have := hc.1; omega)]
    have e : Lib.parseMag (c :: l) = .ok n := by
      unfold Lib.parseMag
      rw [if_neg (by simp), parse_digits _ 0 hd (by omega), hv]
    rw [e]
    show (if _ then _ else _) = _
    rw [hv] at hlt
    rw [if_neg (by omega)]

/-- What Go's test of digits and of the first one tells. -/
theorem dec_of : ∀ (l : List UInt8), (∀ c ∈ l, isD c) → l ≠ [] → (∀ c, l.head? = some c → 1 < l.length → c.toNat ≠ 48) → Lib.decDigits (valD 0 l) = l := by
  intro l
  generalize hn : l.length = n
  induction n generalizing l with
  | zero => intro _ hne _; exact absurd (List.eq_nil_of_length_eq_zero hn) hne
  | succ n ih =>
    intro hd hne hz
    obtain ⟨r, c, rfl⟩ : ∃ r c, l = r ++ [c] := ⟨l.dropLast, l.getLast hne, (List.dropLast_concat_getLast hne).symm⟩
    have hc := hd c (by simp)
    have hcc : 48 ≤ c.toNat ∧ c.toNat ≤ 57 := hc
    have ev : valD 0 (r ++ [c]) = 10 * valD 0 r + (c.toNat - 48) := by simp [valD]
    have ec : UInt8.ofNat (48 + (c.toNat - 48)) = c := by
      rw [show 48 + (c.toNat - 48) = c.toNat by omega, UInt8.ofNat_toNat]
    rw [ev]
    by_cases hr : r = []
    · subst hr
      rw [show valD 0 [] = 0 from rfl, decDigits_small (by omega)]
      simpa using ec
    · have hl : r.length = n := by simpa using hn
      have h1 : 0 < r.length := List.length_pos_iff.2 hr
      have ih' := ih r hl (fun x hx => hd x (by simp [hx])) hr (fun x hx h => hz x (by cases r <;> simp_all) (by simp at hn ⊢; omega))
      have hpos : 0 < valD 0 r := by
        rcases Nat.eq_zero_or_pos (valD 0 r) with h0 | h0
        · rw [h0, decDigits_small (by omega)] at ih'
          have := hz 48 (by rw [← ih']; rfl) (by rw [← hn]; simp; omega)
          exact absurd rfl this
        · exact h0
      rw [decDigits_step (by omega), show (10 * valD 0 r + (c.toNat - 48)) / 10 = valD 0 r by omega, show (10 * valD 0 r + (c.toNat - 48)) % 10 = c.toNat - 48 by omega, ih', ec]
end Go.Proofs.YtpafddeakanopaaDoor
