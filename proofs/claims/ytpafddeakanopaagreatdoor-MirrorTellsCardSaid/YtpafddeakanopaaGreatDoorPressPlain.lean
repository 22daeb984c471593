/- Plain: pressed texts: runs of equal bytes. No program in sight. -/
import Derived.Test.YtpafddeakanopaaGreatDoorPlain
import Derived.Lib.ItoaNum
import Derived.Lib.ItoaLen
import Derived.Lib.AppendStr
import Derived.Lib.UnsafeStr
namespace Go.Proofs.YtpafddeakanopaaGreatDoor
open Go

theorem bl_mk (l : List UInt8) : bl ⟨l.toArray⟩ = l := rfl
theorem bl_append (a b : ByteArray) : bl (a ++ b) = bl a ++ bl b := by
  show (a ++ b).data.toList = a.data.toList ++ b.data.toList
  rw [ByteArray.data_append, Array.toList_append]
theorem bl_extract (s : ByteArray) (i j : Nat) : bl (s.extract i j) = ((bl s).drop i).take (j - i) := by
  show (s.extract i j).data.toList = _
  rw [ByteArray.data_extract, Array.toList_extract, List.extract_eq_take_drop]
  rfl
theorem bl_one (s : ByteArray) (i : Nat) (h : i < s.size) : bl (s.extract i (i + 1)) = [s[i]] := by
  rw [bl_extract, drop_cons s i h]; simp
theorem bl_inj {a b : ByteArray} (h : bl a = bl b) : a = b := by
  cases a; cases b
  congr 1
  exact Array.toList_inj.1 h
theorem strCells_bl (s : ByteArray) : Lib.strCells s = Lib.byteCells (bl s) := rfl
theorem byteCells_append (a b : List UInt8) : Lib.byteCells (a ++ b) = Lib.byteCells a ++ Lib.byteCells b := by simp [Lib.byteCells]

/-- The runs of a text. -/
def grp : List UInt8 → List (Nat × UInt8)
  | [] => []
  | c :: cs => match grp cs with
    | (n, d) :: r => if c = d then (n + 1, d) :: r else (1, c) :: (n, d) :: r
    | [] => [(1, c)]

def runText (r : Nat × UInt8) : List UInt8 := Lib.decDigits r.1 ++ [58, r.2]
/-- A text pressed. -/
def pressL (l : List UInt8) : List UInt8 := (grp l).flatMap runText

theorem grp_head : ∀ (l : List UInt8) (n : Nat) (d : UInt8) (r : List (Nat × UInt8)), grp l = (n, d) :: r → l.head? = some d
  | [], n, d, r, h => by cases h
  | c :: cs, n, d, r, h => by
    simp only [grp] at h
    split at h
    · split at h
      · rename_i e; simp at h; simp [e, h.1.2]
      · simp at h; simp [h.1.2]
    · simp at h; simp [h.1.2]

theorem grp_run (c : UInt8) (rest : List UInt8) (hr : rest.head? ≠ some c) : ∀ n, grp (List.replicate (n + 1) c ++ rest) = (n + 1, c) :: grp rest
  | 0 => by
    simp only [List.replicate, List.cons_append, List.nil_append, grp]
    cases h : grp rest with
    | nil => rfl
    | cons p r =>
      obtain ⟨m, d⟩ := p
      have := grp_head _ _ _ _ h
      simp only
      rw [if_neg (by rintro rfl; exact hr this)]
  | n + 1 => by
    have ih := grp_run c rest hr n
    rw [List.replicate_succ, List.cons_append, grp, ih]
    simp

theorem pressL_run (c : UInt8) (rest : List UInt8) (n : Nat) (hn : 0 < n) (hr : rest.head? ≠ some c) : pressL (List.replicate n c ++ rest) = runText (n, c) ++ pressL rest := by
  obtain ⟨m, rfl⟩ : ∃ m, n = m + 1 := ⟨n - 1, by omega⟩
  rw [pressL, grp_run c rest hr m]; rfl

theorem runText_len (n : Nat) (c : UInt8) (hn : n ≤ 9223372036854775807) : (runText (n, c)).length ≤ 23 := by
  have h := Lib.itoa_length_le (n : Int) (by omega) (by omega)
  have e : Lib.itoa (n : Int) = Lib.decDigits n := by unfold Lib.itoa; rw [if_neg (by omega)]; simp
  rw [e] at h
  simp [runText]; omega

theorem decDigits_small {n : Nat} (h : n < 10) : Lib.decDigits n = [UInt8.ofNat (48 + n)] := by rw [Lib.decDigits, dif_pos h]
theorem decDigits_step {n : Nat} (h : ¬ n < 10) : Lib.decDigits n = Lib.decDigits (n / 10) ++ [UInt8.ofNat (48 + n % 10)] := by rw [Lib.decDigits, dif_neg h]
theorem decDigits_len (n : Nat) (hn : n ≤ 9223372036854775807) : (Lib.decDigits n).length ≤ 21 := by
  have h := Lib.itoa_length_le (n : Int) (by omega) (by omega)
  have e : Lib.itoa (n : Int) = Lib.decDigits n := by unfold Lib.itoa; rw [if_neg (by omega)]; simp
  rwa [e] at h
theorem itoa_nat (n : Nat) : Lib.itoa (n : Int) = Lib.decDigits n := by unfold Lib.itoa; rw [if_neg (by omega)]; simp
end Go.Proofs.YtpafddeakanopaaGreatDoor
