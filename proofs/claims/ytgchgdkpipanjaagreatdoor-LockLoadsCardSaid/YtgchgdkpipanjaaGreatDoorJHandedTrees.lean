/- Texts handed in: a row of strings, as an argument; opened. A law's argument of trees, opened: as the walk wants it. -/
import Derived.Test.YtgchgdkpipanjaaGreatDoorJRowed
import Derived.Deep.Strs
import Derived.Deep.SlicePairs
import Derived.WideShapes
import Derived.DataReads
import Derived.Test.YtgchgdkpipanjaaGreatDoorJHanded
import Derived.Test.YtgchgdkpipanjaaGreatDoorJTreesUp
namespace Go.Proofs.YtgchgdkpipanjaaGreatDoor
open Go Go.RowKit Go.ChangeShapes Go.WideShapes Go.Deep

/-- Texts that came in. -/
def TxArg (w : World) (v : Value) (l : List ByteArray) : Prop :=
  ∃ ao cap, v = .slice ao l.length cap ∧ l.length ≤ cap ∧ cap ≤ maxLen ∧ (∀ i, i < l.length → ∃ b off, ao = some ⟨b, off, none⟩ ∧ b < w.heap.size ∧ ∀ k, (hk : k < l.length) → w.cell? ⟨b, off + k, none⟩ = some (.string l[k]))
theorem TxArg.ext {w w' : World} {v : Value} {l : List ByteArray} (h : TxArg w v l) (hb : Below w.heap.size w w') : TxArg w' v l := by
  obtain ⟨ao, cap, h1, h2, h3, h4⟩ := h
  refine ⟨ao, cap, h1, h2, h3, fun i hi => ?_⟩
  obtain ⟨b, off, e, hbl, hc⟩ := h4 i hi
  exact ⟨b, off, e, Nat.lt_of_lt_of_le hbl hb.size, fun k hk => by rw [hb.cell (p := ⟨b, off + k, none⟩) hbl]; exact hc k hk⟩
theorem TxArg.len {w : World} {v : Value} {l : List ByteArray} (h : TxArg w v l) : ∃ ao cap, v = .slice ao l.length cap := by
  obtain ⟨ao, cap, e, _⟩ := h
  exact ⟨ao, cap, e⟩
theorem TxArg.at {w : World} {ao : Option Addr} {n cap k : Nat} {l : List ByteArray} (h : TxArg w (.slice ao n cap) l) (hk : k < l.length) : ∃ b off, ao = some ⟨b, off, none⟩ ∧ b < w.heap.size ∧ w.cell? ⟨b, off + k, none⟩ = some (.string l[k]) := by
  obtain ⟨ao', cap', e, _, _, h4⟩ := h
  injection e with e0 _ _
  subst e0
  obtain ⟨b, off, e, hbl, hc⟩ := h4 k hk
  exact ⟨b, off, e, hbl, hc k hk⟩
theorem Tryz.cellsStrA : Tryz.prog.cellsOf 9 = 1 := by kernel_rfl
section
variable {H : Type} {enc : TypeId × Value → H} {W : World} {spare : Nat → Bool} {held : Bool}
theorem open_tx {fuel : Nat} {v : Value} {x : DataW H × List MemPlace} (h : DataW.trod enc Tryz.prog W 0 spare held fuel 33 [v] = some x) : ∃ zs : List ByteArray, TxArg W v zs := by
  rcases open_strs Tryz.underlying33 Tryz.underlying9 Tryz.cellsStrA h with ⟨hcs, hx⟩ | ⟨a, len, cap, m, Sx, hcs, _, hl, hm, hmm, hx, hcell⟩
  · obtain rfl : v = .slice none 0 0 := by simpa using hcs
    exact ⟨[], none, 0, rfl, Nat.le_refl _, Nat.zero_le _, fun i hi => absurd hi (Nat.not_lt_zero _)⟩
  · obtain rfl : v = .slice (some a) len cap := by simpa using hcs
    have hlm : len ≤ m := by rw [hmm]; split <;> omega
    refine ⟨(List.range len).map Sx, some a, cap, by simp, by simp; omega, hm, fun i hi => ?_⟩
    simp only [List.length_map, List.length_range] at hi
    have hc0 := (hcell i (by omega)).1
    obtain ⟨b, off, spot⟩ := a
    have hspot : spot = none := World.cell?_spot (a := ⟨b, off, spot⟩) (hcell 0 (by omega)).1
    subst hspot
    refine ⟨b, off, rfl, by rw [add_plain] at hc0; exact World.block_lt_of_cell? W _ hc0, fun k hk => ?_⟩
    simp only [List.length_map, List.length_range] at hk
    have := (hcell k (by omega)).1
    rw [add_plain] at this
    simpa using this
set_option maxRecDepth 100000 in
theorem open_texts_arg {v : Value} {d : DataW H} {p : List MemPlace} {r : Reach} {base : Nat} (hok : Value.okWide Tryz.prog W r base 33 v) (h : DataW.Trod enc Tryz.prog W 0 spare held 33 v d p) : ∃ l : List ByteArray, TxArg W v l := by
  obtain ⟨a, len, cap, rfl⟩ := okWide_slice Tryz.underlying33 hok
  obtain ⟨fuel, hf⟩ := h
  exact open_tx hf
end
end Go.Proofs.YtgchgdkpipanjaaGreatDoor

namespace Go.Proofs.YtgchgdkpipanjaaGreatDoor
open Go Go.RowKit Go.ChangeShapes Go.WideShapes Go.Deep

theorem Tryz.cellsFiles : Tryz.prog.cellsOf 48 = 1 := by kernel_rfl
instance openTreesInh : Inhabited (Value × List FileB) := ⟨(.slice none 0 0, [])⟩
section
variable {H : Type} {enc : TypeId × Value → H} {W : World} {spare : Nat → Bool} {held : Bool}
set_option maxRecDepth 100000 in
theorem open_trees {fuel : Nat} {v : Value} {x : DataW H × List MemPlace} (h : DataW.trod enc Tryz.prog W 0 spare held fuel 42 [v] = some x) : ∃ L : List (Value × List FileB), ZRow W v L := by
  have ce := Tryz.cellsFiles
  rcases open_slice Tryz.underlying42 h with ⟨hcs, _⟩ | ⟨a, len, cap, m, n, D, Pl, hcs, hb, hl, hm, hmm, _, hx⟩
  · obtain rfl : v = .slice none 0 0 := by simpa using hcs
    exact ⟨[], ⟨none, 0, rfl, Nat.le_refl _, Nat.zero_le _, fun i hi => absurd hi (Nat.not_lt_zero _)⟩, fun x hx => by cases hx⟩
  · obtain rfl : v = .slice (some a) len cap := by simpa using hcs
    have hlm : len ≤ m := by rw [hmm]; split <;> omega
    have each : ∀ i, i < len → ∃ r : Value × List FileB, W.cell? (a.add i) = some r.1 ∧ FArg W r.1 r.2 := by
      intro i hi
      obtain ⟨cs', h1, h2⟩ := hx i (by omega)
      rw [ce] at h1
      obtain ⟨_, hlen, hcell⟩ := World.cells?_some h1
      obtain ⟨u, rfl⟩ : ∃ u, cs' = [u] := by
        match cs', hlen with
        | [u], _ => exact ⟨u, rfl⟩
      obtain ⟨l, hf⟩ := open_files h2
      have e2 := hcell 0 (by decide)
      rw [add_add] at e2
      exact ⟨(u, l), by simpa using e2, hf⟩
    obtain ⟨R, hR⟩ := choose_lt each
    refine ⟨(List.range len).map R, ⟨some a, cap, by simp, by simp; omega, hm, fun i hi => ?_⟩, fun x hx => ?_⟩
    · simp only [List.length_map, List.length_range] at hi
      have hc0 := (hR i hi).1
      obtain ⟨b, off, spot⟩ := a
      have hspot : spot = none := World.cell?_spot (a := ⟨b, off, spot⟩) (by have := (hR 0 (by omega)).1; exact this)
      subst hspot
      refine ⟨b, off, rfl, by rw [add_plain] at hc0; exact lt_of_cellF hc0, fun k hk => ?_⟩
      simp only [List.length_map, List.length_range] at hk
      have := (hR k hk).1
      rw [add_plain] at this
      simpa using this
    · obtain ⟨j, hj, rfl⟩ := List.mem_map.1 hx
      exact (hR j (List.mem_range.1 hj)).2
set_option maxRecDepth 100000 in
theorem open_trees_arg {v : Value} {d : DataW H} {p : List MemPlace} {r : Reach} {base : Nat} (hok : Value.okWide Tryz.prog W r base 42 v) (h : DataW.Trod enc Tryz.prog W 0 spare held 42 v d p) : ∃ L : List (Value × List FileB), ZRow W v L := by
  obtain ⟨a, len, cap, rfl⟩ := okWide_slice Tryz.underlying42 hok
  obtain ⟨fuel, hf⟩ := h
  exact open_trees hf
end
end Go.Proofs.YtgchgdkpipanjaaGreatDoor
