/- A law's argument of texts, opened: as the walk wants it. -/
import Derived.Test.YtpafddeakanopaaDoorTapeCutsLaw
import Derived.Deep.Strs
import Derived.WideShapes
import Derived.DataReads
namespace Go.Proofs.YtpafddeakanopaaDoor
open Go Go.RowKit Go.ChangeShapes Go.WideShapes Go.Deep

theorem Tryd.cellsStr : Tryd.prog.cellsOf 9 = 1 := by kernel_rfl

section
variable {H : Type} {enc : TypeId × Value → H} {W : World} {spare : Nat → Bool} {held : Bool}

theorem lt_of_cellA {w : World} {a : Addr} {v : Value} (h : w.cell? a = some v) : a.block < w.heap.size := World.block_lt_of_cell? w a h

/-- Texts that came in. -/
theorem open_texts {fuel : Nat} {v : Value} {x : DataW H × List MemPlace} (h : DataW.trod enc Tryd.prog W 0 spare held fuel 25 [v] = some x) : ∃ zs : List ByteArray, RowA W v zs := by
  rcases open_strs Tryd.underlying25 Tryd.underlying9 Tryd.cellsStr h with ⟨hcs, hx⟩ | ⟨a, len, cap, m, Sx, hcs, _, hl, hm, hmm, hx, hcell⟩
  · obtain rfl : v = .slice none 0 0 := by simpa using hcs
    exact ⟨[], none, 0, rfl, Nat.le_refl _, Nat.zero_le _, fun i hi => absurd hi (Nat.not_lt_zero _)⟩
  · obtain rfl : v = .slice (some a) len cap := by simpa using hcs
    have hlm : len ≤ m := by rw [hmm]; split <;> omega
    refine ⟨(List.range len).map Sx, some a, cap, by simp, by simp; omega, hm, fun i hi => ?_⟩
    simp only [List.length_map, List.length_range] at hi
    have hc0 := (hcell i (by omega)).1
    obtain ⟨b, off, spot⟩ := a
    have hspot : spot = none := World.cell?_spot (a := ⟨b, off, spot⟩) (hcell 0 (by omega)).1
    subst hspot
    refine ⟨b, off, rfl, by rw [add_plain] at hc0; exact lt_of_cellA hc0, fun k hk => ?_⟩
    simp only [List.length_map, List.length_range] at hk
    have := (hcell k (by omega)).1
    rw [add_plain] at this
    simpa using this

set_option maxRecDepth 100000 in
theorem open_texts_arg {v : Value} {d : DataW H} {p : List MemPlace} {r : Reach} {base : Nat} (hok : Value.okWide Tryd.prog W r base 25 v) (h : DataW.Trod enc Tryd.prog W 0 spare held 25 v d p) : ∃ l : List ByteArray, RowA W v l := by
  obtain ⟨a, len, cap, rfl⟩ := okWide_slice Tryd.underlying25 hok
  obtain ⟨fuel, hf⟩ := h
  exact open_texts hf
end
end Go.Proofs.YtpafddeakanopaaDoor
