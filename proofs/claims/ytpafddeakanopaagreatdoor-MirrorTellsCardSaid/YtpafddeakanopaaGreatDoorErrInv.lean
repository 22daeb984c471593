/- What an error value is, from how it reads. -/
import Derived.Test.YtpafddeakanopaaGreatDoorEnv
namespace Go.Proofs.YtpafddeakanopaaGreatDoor
open Go Go.RowKit

theorem IsErr.nil_inv {E : Nat → Addr} {w : World} {v : Value} {a : Option Int} (h : IsErr E w v ⟨0, a⟩) : v = .nilIface := by
  rcases h with ⟨_, h⟩ | ⟨k, _, h, _⟩ | ⟨k, a, b, _, h, _⟩
  · exact h
  · simp at h
  · simp at h
theorem IsErr.base_inv {E : Nat → Addr} {w : World} {v : Value} {k : Nat} (h : IsErr E w v ⟨k + 1, none⟩) : k < 13 ∧ v = sentV E k := by
  rcases h with ⟨h, _⟩ | ⟨j, h1, h, h2⟩ | ⟨j, a, b, _, h, _⟩
  · simp at h
  · simp at h; subst h; exact ⟨h1, h2⟩
  · simp at h
theorem IsErr.fault_inv {E : Nat → Addr} {w : World} {v : Value} {k : Nat} {a : Int} (h : IsErr E w v ⟨k + 1, some a⟩) :
    ∃ b, k < 13 ∧ v = .iface 45 (.pointer (some ⟨b, 0, none⟩)) ∧ w.cell? ⟨b, 0, none⟩ = some (.int .i64 a) ∧ w.cell? ⟨b, 1, none⟩ = some (sentV E k) := by
  rcases h with ⟨h, _⟩ | ⟨j, h1, h, h2⟩ | ⟨j, a', b, h1, h, h2, h3, h4⟩
  · simp at h
  · simp at h
  · simp at h; obtain ⟨rfl, rfl⟩ := h; exact ⟨b, h1, h2, h3, h4⟩
/-- Not nil: some type and value. -/
theorem IsErr.some_inv {E : Nat → Addr} {w : World} {v : Value} {er : Er} (h : IsErr E w v er) (h0 : er.code ≠ 0) : ∃ t x, v = .iface t x := by
  rcases h with ⟨rfl, _⟩ | ⟨j, h1, h, h2⟩ | ⟨j, a', b, h1, h, h2, h3, h4⟩
  · exact absurd rfl h0
  · exact ⟨_, _, h2⟩
  · exact ⟨_, _, h2⟩
end Go.Proofs.YtpafddeakanopaaGreatDoor
