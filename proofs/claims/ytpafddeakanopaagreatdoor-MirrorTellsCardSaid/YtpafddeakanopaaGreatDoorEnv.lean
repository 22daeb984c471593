/- The world's facts that every call leans on: the thirteen sentinels of package api, each a pointer of its own; and how an error value reads. -/
import Derived.Test.YtpafddeakanopaaGreatDoorAsMiss
namespace Go.Proofs.YtpafddeakanopaaGreatDoor
open Go Go.RowKit

/-- An error as package plain tells it: its number (0: none), and its place, if it is a Fault. -/
structure Er where
  code : Nat
  at? : Option Int

abbrev Er.nil : Er := ⟨0, none⟩
abbrev Er.base (k : Nat) : Er := ⟨k, none⟩
abbrev Er.fault (a : Int) (k : Nat) : Er := ⟨k, some a⟩

/-- The variable of the sentinel number k + 1. -/
def gE (k : Nat) : Nat := [1, 2, 3, 4, 5, 6, 7, 0, 8, 9, 10, 11, 12].getD k 0

/-- The value of a sentinel. -/
abbrev sentV (E : Nat → Addr) (k : Nat) : Value := .iface 136 (.pointer (some (E k)))

structure Env (E : Nat → Addr) (w : World) : Prop where
  err : ∀ k, k < 13 → w.cell? ⟨gE k, 0, none⟩ = some (sentV E k)
  row : ∀ k, k < 13 → ∃ c t, w.heap[(E k).block]? = some (.cells c t (0, 0))
  inj : ∀ i j, i < 13 → j < 13 → E i = E j → i = j
  typ : w.cell? ⟨13, 0, none⟩ = some (.iface 92 (.agg #[.pointer (some ⟨17, 27, none⟩)]))

theorem lt_of_cell {w : World} {a : Addr} {v : Value} (h : w.cell? a = some v) : a.block < w.heap.size := World.block_lt_of_cell? w a h

theorem Env.ext {E : Nat → Addr} {w w' : World} (h : Env E w) (hb : Below w.heap.size w w') : Env E w' where
  err := fun k hk => by rw [hb.cell (p := ⟨gE k, 0, none⟩) (lt_of_cell (h.err k hk))]; exact h.err k hk
  row := fun k hk => by
    obtain ⟨c, t, hc⟩ := h.row k hk
    exact ⟨c, t, by rw [hb.block _ (Array.getElem?_eq_some_iff.1 hc).1]; exact hc⟩
  inj := h.inj
  typ := by rw [hb.cell (p := ⟨13, 0, none⟩) (lt_of_cell h.typ)]; exact h.typ

theorem Env.eText {E : Nat → Addr} {w : World} (h : Env E w) : w.cell? ⟨1, 0, none⟩ = some (sentV E 0) := h.err 0 (by decide)
theorem Env.eBound {E : Nat → Addr} {w : World} (h : Env E w) : w.cell? ⟨2, 0, none⟩ = some (sentV E 1) := h.err 1 (by decide)
theorem Env.eShape {E : Nat → Addr} {w : World} (h : Env E w) : w.cell? ⟨3, 0, none⟩ = some (sentV E 2) := h.err 2 (by decide)
theorem Env.eKind {E : Nat → Addr} {w : World} (h : Env E w) : w.cell? ⟨4, 0, none⟩ = some (sentV E 3) := h.err 3 (by decide)
theorem Env.eName {E : Nat → Addr} {w : World} (h : Env E w) : w.cell? ⟨5, 0, none⟩ = some (sentV E 4) := h.err 4 (by decide)
theorem Env.eNone {E : Nat → Addr} {w : World} (h : Env E w) : w.cell? ⟨6, 0, none⟩ = some (sentV E 5) := h.err 5 (by decide)
theorem Env.eExist {E : Nat → Addr} {w : World} (h : Env E w) : w.cell? ⟨7, 0, none⟩ = some (sentV E 6) := h.err 6 (by decide)
theorem Env.eFull {E : Nat → Addr} {w : World} (h : Env E w) : w.cell? ⟨0, 0, none⟩ = some (sentV E 7) := h.err 7 (by decide)
theorem Env.eOrder {E : Nat → Addr} {w : World} (h : Env E w) : w.cell? ⟨8, 0, none⟩ = some (sentV E 8) := h.err 8 (by decide)
theorem Env.eOut {E : Nat → Addr} {w : World} (h : Env E w) : w.cell? ⟨9, 0, none⟩ = some (sentV E 9) := h.err 9 (by decide)
theorem Env.eClash {E : Nat → Addr} {w : World} (h : Env E w) : w.cell? ⟨10, 0, none⟩ = some (sentV E 10) := h.err 10 (by decide)
theorem Env.eSum {E : Nat → Addr} {w : World} (h : Env E w) : w.cell? ⟨11, 0, none⟩ = some (sentV E 11) := h.err 11 (by decide)
theorem Env.eOff {E : Nat → Addr} {w : World} (h : Env E w) : w.cell? ⟨12, 0, none⟩ = some (sentV E 12) := h.err 12 (by decide)

/-- The error value v reads as the error er: none; a sentinel; a Fault around a sentinel. -/
def IsErr (E : Nat → Addr) (w : World) (v : Value) (er : Er) : Prop :=
  (er = ⟨0, none⟩ ∧ v = .nilIface) ∨ (∃ k, k < 13 ∧ er = ⟨k + 1, none⟩ ∧ v = sentV E k) ∨
  (∃ k a b, k < 13 ∧ er = ⟨k + 1, some a⟩ ∧ v = .iface 45 (.pointer (some ⟨b, 0, none⟩)) ∧ w.cell? ⟨b, 0, none⟩ = some (.int .i64 a) ∧ w.cell? ⟨b, 1, none⟩ = some (sentV E k))

theorem IsErr.nil (E : Nat → Addr) (w : World) : IsErr E w .nilIface Er.nil := .inl ⟨rfl, rfl⟩
theorem IsErr.base (E : Nat → Addr) (w : World) (k : Nat) (hk : k < 13) : IsErr E w (sentV E k) (Er.base (k + 1)) := .inr (.inl ⟨k, hk, rfl, rfl⟩)
theorem IsErr.fault (E : Nat → Addr) (w : World) (k : Nat) (hk : k < 13) (a : Int) (b : Nat) (h0 : w.cell? ⟨b, 0, none⟩ = some (.int .i64 a)) (h1 : w.cell? ⟨b, 1, none⟩ = some (sentV E k)) :
    IsErr E w (.iface 45 (.pointer (some ⟨b, 0, none⟩))) (Er.fault a (k + 1)) := .inr (.inr ⟨k, a, b, hk, rfl, rfl, h0, h1⟩)
theorem IsErr.ext {E : Nat → Addr} {w w' : World} {v : Value} {er : Er} (h : IsErr E w v er) (hb : Below w.heap.size w w') : IsErr E w' v er := by
  rcases h with h | h | ⟨k, a, b, hk, h1, h2, h3, h4⟩
  · exact .inl h
  · exact .inr (.inl h)
  · exact .inr (.inr ⟨k, a, b, hk, h1, h2, by rw [hb.cell (p := ⟨b, 0, none⟩) (lt_of_cell h3)]; exact h3, by rw [hb.cell (p := ⟨b, 1, none⟩) (lt_of_cell h4)]; exact h4⟩)

/-- errors.Is(v, a sentinel), v not nil. -/
theorem is_any {E : Nat → Addr} {w : World} {v : Value} {er : Er} (hE : Env E w) (hv : IsErr E w v er) (h0 : er.code ≠ 0) (j : Nat) (hj : j < 13) :
    Calls Tryz.prog 27 #[v, sentV E j] w fun e w' => e = .returned (.bool (decide (er.code = j + 1))) ∧ w = w' := by
  obtain ⟨cj, tj, rj⟩ := hE.row j hj
  rcases hv with ⟨rfl, _⟩ | ⟨k, hk, rfl, rfl⟩ | ⟨k, a, b, hk, rfl, rfl, h3, h4⟩
  · exact absurd rfl h0
  · obtain ⟨ck, tk, rk⟩ := hE.row k hk
    by_cases e : k = j
    · subst e
      simp only [decide_true]
      exact is_same _ _
    · have e' : ¬ (k + 1 = j + 1) := by omega
      simp only [e', decide_false]
      exact is_other _ _ _ _ _ _ w (fun h => e (hE.inj k j hk hj h)) rk rj
  · obtain ⟨ck, tk, rk⟩ := hE.row k hk
    by_cases e : k = j
    · subst e
      simp only [decide_true]
      exact is_fault_same b 0 _ w (by simpa using h4)
    · have e' : ¬ (k + 1 = j + 1) := by omega
      simp only [e', decide_false]
      exact is_fault_other b 0 _ _ _ _ _ _ w (by simpa using h4) (fun h => e (hE.inj k j hk hj h)) rk rj

/-- errors.As(a Fault, the address of a *api.Fault). -/
theorem as_hit_grown {E : Nat → Addr} {w : World} (hE : Env E w) (e t : Addr) (old : Value) (ht : w.cell? t = some old) (hf : w.frozen? t = false) :
    Calls Tryz.prog 26 #[.iface 45 (.pointer (some e)), .iface 60 (.pointer (some t))] w fun ev w' =>
      ev = .returned (.bool true) ∧ w'.cell? t = some (.pointer (some e)) ∧ w.grownBy w' (some t.block) := by
  refine (as_hit e t old w hE.typ ht hf).mono ?_
  rintro ev w' ⟨rfl, rfl⟩
  have hlt : t.block < w.heap.size := lt_of_cell ht
  refine ⟨rfl, ?_, ⟨rfl, rfl, rfl, by simp [World.setCell]; omega, fun k hk hne => ?_⟩⟩
  · apply World.cell?_setCell_same'
    rw [World.cell?_alloc_lt _ _ t (by simp; omega), World.cell?_alloc_lt _ _ t (by simp; omega), World.cell?_alloc_lt _ _ t (by simp; omega), World.cell?_alloc_lt _ _ t hlt, ht]
    rfl
  · have : k ≠ t.block := fun h => hne (by rw [h])
    rw [Below.heap_setCell _ _ _ _ this, Below.heap_alloc _ _ _ (by simp; omega), Below.heap_alloc _ _ _ (by simp; omega), Below.heap_alloc _ _ _ (by simp; omega), Below.heap_alloc _ _ _ hk]

/-- errors.As(a sentinel, the address of a *api.Fault). -/
theorem as_miss_below {E : Nat → Addr} {w : World} (hE : Env E w) (e t : Addr) (old : Value) (ht : w.cell? t = some old) :
    Calls Tryz.prog 26 #[.iface 136 (.pointer (some e)), .iface 60 (.pointer (some t))] w fun ev w' =>
      ev = .returned (.bool false) ∧ Below w.heap.size w w' := by
  refine (as_miss e t old w hE.typ ht).mono ?_
  rintro ev w' ⟨rfl, rfl⟩
  exact ⟨rfl, (((Below.refl _ _).alloc (Nat.le_refl _) _).alloc (by simp) _).alloc (by simp; omega) _⟩
end Go.Proofs.YtpafddeakanopaaGreatDoor
