/- Plain words on bytes, no program in sight: the list of a string's bytes; reading a number in front of a text. -/
import Derived.WalkKit
namespace Go.Proofs.YtpafddeakanopaaGreatDoor
open Go

/-- The bytes of a string. -/
def bl (s : ByteArray) : List UInt8 := s.data.toList

theorem bl_length (s : ByteArray) : (bl s).length = s.size := by show s.data.toList.length = s.data.size; exact Array.length_toList
theorem drop_cons (s : ByteArray) (k : Nat) (h : k < s.size) : (bl s).drop k = s[k] :: (bl s).drop (k + 1) := by
  have hk : k < (bl s).length := by rw [bl_length]; exact h
  rw [List.drop_eq_getElem_cons hk]
  rfl
theorem drop_nil (s : ByteArray) (k : Nat) (h : s.size ≤ k) : (bl s).drop k = [] := by
  apply List.drop_of_length_le; rw [bl_length]; exact h
theorem u8lt (c : UInt8) : (c.toNat : Int) < 256 := by have := c.toNat_lt; omega

/-- press.number: from the place k on, with the value n. -/
def numGo : List UInt8 → Nat → Nat → Nat × Nat
  | [], k, n => (n, k)
  | c :: cs, k, n => if k < 9 ∧ 48 ≤ c.toNat ∧ c.toNat ≤ 57 ∧ (0 < k ∨ c.toNat ≠ 48) then numGo cs (k + 1) (10 * n + (c.toNat - 48)) else (n, k)

end Go.Proofs.YtpafddeakanopaaGreatDoor
