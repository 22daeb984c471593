/- The world's facts that every call leans on: the thirteen sentinels of package api, each a pointer of its own; and how an error value reads. What an error value is, from how it reads. -/
import Derived.Test.YtgchgdkpipanjaaGreatDoorProg
import Derived.WalkKit
import Derived.LaidEql
import Derived.Stop.Asserts
import Derived.RowKitTokens
import Derived.Lib.Hide
namespace Go.Proofs.YtgchgdkpipanjaaGreatDoor
open Go Go.RowKit

/-- An error as package plain tells it: its number (0: none), and its place, if it is a Fault. -/
structure Er where
  code : Nat
  at? : Option Int

abbrev Er.nil : Er := ⟨0, none⟩
abbrev Er.base (k : Nat) : Er := ⟨k, none⟩
abbrev Er.fault (a : Int) (k : Nat) : Er := ⟨k, some a⟩

/-- The variable of the sentinel number k + 1; those that the law's row lists. -/
def gE (k : Nat) : Nat := [2, 7, 4, 6, 5, 3, 9, 0, 1, 10, 11, 8, 12].getD k 0
def okE (k : Nat) : Bool := [0, 1, 2, 3, 4, 5, 6, 7, 8, 9, 10, 11].contains k

/-- The value of a sentinel. -/
abbrev sentV (E : Nat → Addr) (k : Nat) : Value := .iface 311 (.pointer (some (E k)))

structure Env (E : Nat → Addr) (w : World) : Prop where
  err : ∀ k, okE k = true → w.cell? ⟨gE k, 0, none⟩ = some (sentV E k)

theorem lt_of_cell {w : World} {a : Addr} {v : Value} (h : w.cell? a = some v) : a.block < w.heap.size := World.block_lt_of_cell? w a h

theorem Env.ext {E : Nat → Addr} {w w' : World} (h : Env E w) (hb : Below w.heap.size w w') : Env E w' where
  err := fun k hk => by rw [hb.cell (p := ⟨gE k, 0, none⟩) (lt_of_cell (h.err k hk))]; exact h.err k hk

theorem Env.eText {E : Nat → Addr} {w : World} (h : Env E w) : w.cell? ⟨2, 0, none⟩ = some (sentV E 0) := h.err 0 (by decide)
theorem Env.eBound {E : Nat → Addr} {w : World} (h : Env E w) : w.cell? ⟨7, 0, none⟩ = some (sentV E 1) := h.err 1 (by decide)
theorem Env.eShape {E : Nat → Addr} {w : World} (h : Env E w) : w.cell? ⟨4, 0, none⟩ = some (sentV E 2) := h.err 2 (by decide)
theorem Env.eKind {E : Nat → Addr} {w : World} (h : Env E w) : w.cell? ⟨6, 0, none⟩ = some (sentV E 3) := h.err 3 (by decide)
theorem Env.eName {E : Nat → Addr} {w : World} (h : Env E w) : w.cell? ⟨5, 0, none⟩ = some (sentV E 4) := h.err 4 (by decide)
theorem Env.eNone {E : Nat → Addr} {w : World} (h : Env E w) : w.cell? ⟨3, 0, none⟩ = some (sentV E 5) := h.err 5 (by decide)
theorem Env.eExist {E : Nat → Addr} {w : World} (h : Env E w) : w.cell? ⟨9, 0, none⟩ = some (sentV E 6) := h.err 6 (by decide)
theorem Env.eFull {E : Nat → Addr} {w : World} (h : Env E w) : w.cell? ⟨0, 0, none⟩ = some (sentV E 7) := h.err 7 (by decide)
theorem Env.eOrder {E : Nat → Addr} {w : World} (h : Env E w) : w.cell? ⟨1, 0, none⟩ = some (sentV E 8) := h.err 8 (by decide)
theorem Env.eOut {E : Nat → Addr} {w : World} (h : Env E w) : w.cell? ⟨10, 0, none⟩ = some (sentV E 9) := h.err 9 (by decide)
theorem Env.eClash {E : Nat → Addr} {w : World} (h : Env E w) : w.cell? ⟨11, 0, none⟩ = some (sentV E 10) := h.err 10 (by decide)
theorem Env.eSum {E : Nat → Addr} {w : World} (h : Env E w) : w.cell? ⟨8, 0, none⟩ = some (sentV E 11) := h.err 11 (by decide)

/-- The error value v reads as the error er: none; a sentinel; a Fault around a sentinel. -/
def IsErr (E : Nat → Addr) (w : World) (v : Value) (er : Er) : Prop :=
  (er = ⟨0, none⟩ ∧ v = .nilIface) ∨ (∃ k, k < 13 ∧ er = ⟨k + 1, none⟩ ∧ v = sentV E k) ∨
  (∃ k a b, k < 13 ∧ er = ⟨k + 1, some a⟩ ∧ v = .iface 81 (.pointer (some ⟨b, 0, none⟩)) ∧ w.cell? ⟨b, 0, none⟩ = some (.int .i64 a) ∧ w.cell? ⟨b, 1, none⟩ = some (sentV E k))

theorem IsErr.nil (E : Nat → Addr) (w : World) : IsErr E w .nilIface Er.nil := .inl ⟨rfl, rfl⟩
theorem IsErr.base (E : Nat → Addr) (w : World) (k : Nat) (hk : k < 13) : IsErr E w (sentV E k) (Er.base (k + 1)) := .inr (.inl ⟨k, hk, rfl, rfl⟩)
theorem IsErr.fault (E : Nat → Addr) (w : World) (k : Nat) (hk : k < 13) (a : Int) (b : Nat) (h0 : w.cell? ⟨b, 0, none⟩ = some (.int .i64 a)) (h1 : w.cell? ⟨b, 1, none⟩ = some (sentV E k)) :
    IsErr E w (.iface 81 (.pointer (some ⟨b, 0, none⟩))) (Er.fault a (k + 1)) := .inr (.inr ⟨k, a, b, hk, rfl, rfl, h0, h1⟩)
theorem IsErr.ext {E : Nat → Addr} {w w' : World} {v : Value} {er : Er} (h : IsErr E w v er) (hb : Below w.heap.size w w') : IsErr E w' v er := by
  rcases h with h | h | ⟨k, a, b, hk, h1, h2, h3, h4⟩
  · exact .inl h
  · exact .inr (.inl h)
  · exact .inr (.inr ⟨k, a, b, hk, h1, h2, by rw [hb.cell (p := ⟨b, 0, none⟩) (lt_of_cell h3)]; exact h3, by rw [hb.cell (p := ⟨b, 1, none⟩) (lt_of_cell h4)]; exact h4⟩)

end Go.Proofs.YtgchgdkpipanjaaGreatDoor

namespace Go.Proofs.YtgchgdkpipanjaaGreatDoor
open Go Go.RowKit

theorem IsErr.nil_inv {E : Nat → Addr} {w : World} {v : Value} {a : Option Int} (h : IsErr E w v ⟨0, a⟩) : v = .nilIface := by
  rcases h with ⟨_, h⟩ | ⟨k, _, h, _⟩ | ⟨k, a, b, _, h, _⟩
  · exact h
  · simp at h
  · simp at h
theorem IsErr.base_inv {E : Nat → Addr} {w : World} {v : Value} {k : Nat} (h : IsErr E w v ⟨k + 1, none⟩) : k < 13 ∧ v = sentV E k := by
  rcases h with ⟨h, _⟩ | ⟨j, h1, h, h2⟩ | ⟨j, a, b, _, h, _⟩
  · simp at h
  · simp at h; subst h; exact ⟨h1, h2⟩
  · simp at h
theorem IsErr.fault_inv {E : Nat → Addr} {w : World} {v : Value} {k : Nat} {a : Int} (h : IsErr E w v ⟨k + 1, some a⟩) :
    ∃ b, k < 13 ∧ v = .iface 81 (.pointer (some ⟨b, 0, none⟩)) ∧ w.cell? ⟨b, 0, none⟩ = some (.int .i64 a) ∧ w.cell? ⟨b, 1, none⟩ = some (sentV E k) := by
  rcases h with ⟨h, _⟩ | ⟨j, h1, h, h2⟩ | ⟨j, a', b, h1, h, h2, h3, h4⟩
  · simp at h
  · simp at h
  · simp at h; obtain ⟨rfl, rfl⟩ := h; exact ⟨b, h1, h2, h3, h4⟩
/-- Not nil: some type and value. -/
theorem IsErr.some_inv {E : Nat → Addr} {w : World} {v : Value} {er : Er} (h : IsErr E w v er) (h0 : er.code ≠ 0) : ∃ t x, v = .iface t x := by
  rcases h with ⟨rfl, _⟩ | ⟨j, h1, h, h2⟩ | ⟨j, a', b, h1, h, h2, h3, h4⟩
  · exact absurd rfl h0
  · exact ⟨_, _, h2⟩
  · exact ⟨_, _, h2⟩
end Go.Proofs.YtgchgdkpipanjaaGreatDoor
