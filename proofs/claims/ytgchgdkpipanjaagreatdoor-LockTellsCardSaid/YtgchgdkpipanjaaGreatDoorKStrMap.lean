/- A map keyed by texts, by what it answers at each. -/
import Derived.Test.YtgchgdkpipanjaaGreatDoorKPlainly
import Derived.Test.YtgchgdkpipanjaaGreatDoorProg
import Derived.Maps.OwnSet
import Derived.Maps.StringElems
import Derived.StringKeys
namespace Go.Proofs.YtgchgdkpipanjaaGreatDoor
open Go Go.RowKit Go.Maps

theorem Tryz.strKeyed : Keyed Tryz.prog 9 := string_keyed Tryz.underlying9
theorem keyLit (s : ByteArray) (h : s.size ≤ maxLen) : keyOf Tryz.prog 9 (.string s) = some (.string (bl s)) := WideMaps.keyOf_string_mk Tryz.underlying9 h

/-- Block b is a map of m texts; at each it holds what f says. -/
def MapIs (R : Value → Option (DataW Unit × List MemPlace)) (w : World) (b m : Nat) (f : ByteArray → Option (DataW Unit)) : Prop :=
  ∃ D, w.ownsMap Tryz.prog 9 R b m D ∧ Maps.size D = m ∧ (∀ s, Maps.has D (.string (bl s)) = (f s).isSome) ∧ ∀ s z, D.atKey (.string (bl s)) z = (f s).getD z

theorem ownsMap_tight {P : Program} {k : TypeId} {R : Value → Option (DataW Unit × List MemPlace)} {w : World} {b n : Nat} {D : DataW Unit} (h : w.ownsMap P k R b n D) : w.ownsMap P k R b (Maps.size D) D := by
  obtain ⟨es, clock, hb, F, hs, rfl⟩ := h
  exact ⟨es, clock, hb, F, by simp [Maps.size, length_sorted], rfl⟩
theorem key_ne {s u : ByteArray} (h : s ≠ u) : (Lit.string (bl s)) ≠ .string (bl u) := fun e => h (by
  injection e with e
  obtain ⟨⟨a⟩⟩ := s
  obtain ⟨⟨c⟩⟩ := u
  have : a = c := e
  rw [this])

theorem MapIs.made {R : Value → Option (DataW Unit × List MemPlace)} (w : World) : MapIs R (w.alloc (.map #[] 0)) w.heap.size 0 (fun _ => none) :=
  ⟨.map [], World.ownsMap_made _ _ _ _, rfl, fun _ => rfl, fun _ _ => rfl⟩
theorem MapIs.keep {R : Value → Option (DataW Unit × List MemPlace)} {w w' : World} {b m : Nat} {f : ByteArray → Option (DataW Unit)} (h : MapIs R w b m f) (hb : w'.heap[b]? = w.heap[b]?) : MapIs R w' b m f := by
  obtain ⟨D, ⟨es, clock, h1, F, hs, hD⟩, h2⟩ := h
  exact ⟨D, ⟨es, clock, hb.trans h1, F, hs, hD⟩, h2⟩
theorem MapIs.lt {R : Value → Option (DataW Unit × List MemPlace)} {w : World} {b m : Nat} {f : ByteArray → Option (DataW Unit)} (h : MapIs R w b m f) : b < w.heap.size := by
  obtain ⟨D, h1, _⟩ := h
  exact h1.lt
theorem MapIs.isMap {R : Value → Option (DataW Unit × List MemPlace)} {w : World} {b m : Nat} {f : ByteArray → Option (DataW Unit)} (h : MapIs R w b m f) : ∃ es c, w.heap[b]? = some (.map es c) := by
  obtain ⟨D, ⟨es, clock, h1, _⟩, _⟩ := h
  exact ⟨es, clock, h1⟩

/-- Behind 'm[s] = d'. -/
theorem MapIs.put {R : Value → Option (DataW Unit × List MemPlace)} {w w' : World} {b m n : Nat} {f : ByteArray → Option (DataW Unit)} {D : DataW Unit} (h1 : w.ownsMap Tryz.prog 9 R b m D) (h2 : Maps.size D = m) (h3 : ∀ s, Maps.has D (.string (bl s)) = (f s).isSome) (h4 : ∀ s z, D.atKey (.string (bl s)) z = (f s).getD z)
    (s : ByteArray) (d : DataW Unit) (hw : w'.ownsMap Tryz.prog 9 R b n (D.put (.string (bl s)) d)) : MapIs R w' b (if (f s).isSome = true then m else m + 1) (fun u => if u = s then some d else f u) := by
  have hsz : Maps.size (D.put (.string (bl s)) d) = if (f s).isSome = true then m else m + 1 := by
    rw [size_put (h1.tidy Tryz.strKeyed), h3, h2]
  refine ⟨_, by rw [← hsz]; exact ownsMap_tight hw, hsz, fun u => ?_, fun u z => ?_⟩
  · by_cases hu : u = s
    · subst hu; rw [has_put_same (k := .string (bl u)) h1.isMap trivial]; simp
    · rw [has_put_other (key_ne hu), h3]; simp [hu]
  · by_cases hu : u = s
    · subst hu; rw [atKey_put_same (k := .string (bl u)) h1.isMap trivial]; simp
    · rw [atKey_put_other (key_ne hu), h4]; simp [hu]
noncomputable abbrev RBool : Value → Option (DataW Unit × List MemPlace) := plainElem Tryz.prog 4
theorem plainElem_bool_inv {P : Program} {e : TypeId} (he : P.underlying e = some .bool) {v : Value} {z : DataW Unit × List MemPlace} (h : plainElem P e v = some z) : ∃ x, v = .bool x ∧ z = (.lit (.bool x), []) := by
  unfold plainElem at h
  rw [he] at h
  cases v <;> simp at h
  exact ⟨_, rfl, h.symm⟩
end Go.Proofs.YtgchgdkpipanjaaGreatDoor
