/- Sums, in plain Lean: no program in sight. -/
import Derived.Test.YtkplekkldkmdhaaDoorPlain
namespace Go.Proofs.YtkplekkldkmdhaaDoor

/-- The modulus and the base. -/
abbrev sM : Nat := 1000000007

def sumFrom (n : Nat) (l : List UInt8) : Nat := l.foldl (fun n b => (n * 263 + b.toNat + 1) % sM) n
/-- The sum of a text. -/
def sumL (l : List UInt8) : Nat := sumFrom 0 l
/-- The sum before it is reduced. -/
def polFrom (n : Nat) (l : List UInt8) : Nat := l.foldl (fun n b => n * 263 + b.toNat + 1) n
def polL (l : List UInt8) : Nat := polFrom 0 l

theorem sumFrom_cons (n : Nat) (b : UInt8) (l : List UInt8) : sumFrom n (b :: l) = sumFrom ((n * 263 + b.toNat + 1) % sM) l := rfl
theorem polFrom_cons (n : Nat) (b : UInt8) (l : List UInt8) : polFrom n (b :: l) = polFrom (n * 263 + b.toNat + 1) l := rfl

theorem step_modM (M m b : Nat) : ((m % M) * 263 + b + 1) % M = (m * 263 + b + 1) % M := by
  have h : (m % M) * 263 + b + 1 = (m % M) * 263 + (b + 1) := Nat.add_assoc _ _ _
  have h2 : m * 263 + b + 1 = m * 263 + (b + 1) := Nat.add_assoc _ _ _
  rw [h, h2, Nat.add_mod, Nat.mul_mod, Nat.mod_mod, ← Nat.mul_mod, ← Nat.add_mod]
theorem step_mod (m b : Nat) : ((m % sM) * 263 + b + 1) % sM = (m * 263 + b + 1) % sM := step_modM sM m b

theorem sumFrom_pol : ∀ (l : List UInt8) (m : Nat), sumFrom (m % sM) l = polFrom m l % sM
  | [], m => rfl
  | b :: l, m => by rw [sumFrom_cons, polFrom_cons, step_mod, sumFrom_pol l]
theorem sumL_pol (l : List UInt8) : sumL l = polL l % sM := sumFrom_pol l 0
theorem sumL_lt (l : List UInt8) : sumL l < sM := by rw [sumL_pol]; exact Nat.mod_lt _ (by decide)

theorem polFrom_add : ∀ (l : List UInt8) (n : Nat), polFrom n l = n * 263 ^ l.length + polL l
  | [], n => by simp [polFrom, polL]
  | b :: l, n => by
    have h1 := polFrom_add l (n * 263 + b.toNat + 1)
    have h2 := polFrom_add l (0 * 263 + b.toNat + 1)
    rw [polFrom_cons, h1]
    show _ = _ + polFrom 0 (b :: l)
    rw [polFrom_cons, h2, List.length_cons, Nat.pow_succ]
    generalize 263 ^ l.length = X
    generalize b.toNat = B
    have e1 : (n * 263 + B + 1) * X = n * 263 * X + (B + 1) * X := by rw [← Nat.add_mul, Nat.add_assoc]
    have e2 : (0 * 263 + B + 1) * X = (B + 1) * X := by rw [Nat.zero_mul, Nat.zero_add]
    have e3 : n * (X * 263) = n * 263 * X := by rw [Nat.mul_comm X, Nat.mul_assoc]
    rw [e1, e2, e3]; omega
theorem polL_append (a b : List UInt8) : polL (a ++ b) = polL a * 263 ^ b.length + polL b := by
  have : polL (a ++ b) = polFrom (polL a) b := by simp [polL, polFrom, List.foldl_append]
  rw [this, polFrom_add]
theorem polL_snoc (a : List UInt8) (b : UInt8) : polL (a ++ [b]) = polL a * 263 + b.toNat + 1 := by
  simp [polL, polFrom, List.foldl_append]

/-- Powers of the base. -/
def powM (n : Nat) : Nat := 263 ^ n % sM
theorem powM_lt (n : Nat) : powM n < sM := Nat.mod_lt _ (by decide)

/-- What Join answers of sums. -/
def joinN (a b n : Nat) : Nat := (a * powM n + b) % sM
theorem joinN_lt (a b n : Nat) : joinN a b n < sM := Nat.mod_lt _ (by decide)
theorem sumL_append (a b : List UInt8) : sumL (a ++ b) = joinN (sumL a) (sumL b) b.length := by
  rw [sumL_pol, polL_append, joinN, powM, sumL_pol, sumL_pol, Nat.add_mod, Nat.mul_mod]
  simp [Nat.add_mod]

theorem coprime_base (k : Nat) : Nat.Coprime sM (263 ^ k) := Nat.Coprime.pow_right k (by decide : Nat.Coprime sM 263)
theorem diff_one {d k : Nat} (h : sM ∣ d * 263 ^ k) (hd : d < sM) : d = 0 := by
  have h2 := Nat.Coprime.dvd_of_dvd_mul_right (coprime_base k) h
  exact Nat.eq_zero_of_dvd_of_lt h2 hd
theorem mod_eq_dvdM {M x y : Nat} (h : x % M = y % M) : M ∣ y - x := by
  have h1 := Nat.div_add_mod x M
  have h2 := Nat.div_add_mod y M
  refine ⟨y / M - x / M, ?_⟩
  rw [Nat.mul_sub]; omega
theorem mod_eq_dvd {x y : Nat} (_ : x ≤ y) (h : x % sM = y % sM) : sM ∣ y - x := mod_eq_dvdM h

/-- Texts that differ in one byte alone have other sums. -/
theorem sumL_other (p q : List UInt8) (x y : UInt8) (hxy : x ≠ y) : sumL (p ++ x :: q) ≠ sumL (p ++ y :: q) := by
  intro h
  have key : ∀ x y : UInt8, x.toNat < y.toNat → sumL (p ++ x :: q) ≠ sumL (p ++ y :: q) := by
    intro x y hlt h
    rw [sumL_pol, sumL_pol] at h
    have e : ∀ z : UInt8, polL (p ++ z :: q) = (polL p * 263 + z.toNat + 1) * 263 ^ q.length + polL q := by
      intro z
      rw [show p ++ z :: q = (p ++ [z]) ++ q by simp, polL_append, polL_snoc]
    rw [e, e] at h
    have hle : (polL p * 263 + x.toNat + 1) * 263 ^ q.length + polL q ≤ (polL p * 263 + y.toNat + 1) * 263 ^ q.length + polL q :=
      Nat.add_le_add_right (Nat.mul_le_mul_right _ (by omega)) _
    have hd := mod_eq_dvd hle h
    rw [show (polL p * 263 + y.toNat + 1) * 263 ^ q.length + polL q - ((polL p * 263 + x.toNat + 1) * 263 ^ q.length + polL q) = (y.toNat - x.toNat) * 263 ^ q.length by
      rw [Nat.add_sub_add_right, ← Nat.sub_mul]; congr 1; omega] at hd
    have hy := y.toNat_lt
    have := diff_one hd (by show _ < 1000000007; omega)
    omega
  rcases Nat.lt_trichotomy x.toNat y.toNat with h1 | h1 | h1
  · exact key x y h1 h
  · exact hxy (UInt8.toNat_inj.1 h1)
  · exact key y x h1 h.symm

/-- Powers by squares: the loop's law. -/
theorem pow_half (x n : Nat) : (x ^ n) % sM = ((x * x % sM) ^ (n / 2) * (if n % 2 = 1 then x else 1)) % sM := by
  have h := Nat.div_add_mod n 2
  have h1 : x ^ n = (x * x) ^ (n / 2) * x ^ (n % 2) := by
    rw [show x * x = x ^ 2 by rw [Nat.pow_two], ← Nat.pow_mul, ← Nat.pow_add, h]
  rw [h1, Nat.mul_mod, Nat.pow_mod, ← Nat.mul_mod]
  rcases Nat.mod_two_eq_zero_or_one n with h2 | h2 <;> rw [h2] <;> simp [Nat.mul_mod]
end Go.Proofs.YtkplekkldkmdhaaDoor
