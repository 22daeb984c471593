/- A row of structs whose fields have one cell each, opened. -/
import Derived.Test.YtpafddeakanopaaDoorRow
import Derived.Deep.SlicePairs
import Derived.Deep.Strs
import Derived.WideShapes
import Derived.DataReads
namespace Go.Proofs.YtpafddeakanopaaDoor
open Go Go.RowKit Go.ChangeShapes Go.WideShapes Go.Deep

section
variable {H : Type} {enc : TypeId × Value → H} {P : Program} {w : World} {base : Nat} {spare : Nat → Bool} {held : Bool}
/-- Every element's every field: its cell, and how it reads. -/
theorem open_slice_struct {t e : TypeId} {fs : Array Field} {fuel : Nat} {cs : List Value} {x : DataW H × List MemPlace} (ht : P.underlying t = some (.slice e)) (he : P.underlying e = some (.struct fs))
    (ce : P.cellsOf e = fs.size) (ho : ∀ (j : Nat) (f : Field), fs[j]? = some f → f.offset = j ∧ P.cellsOf f.type = 1) (h : DataW.trod enc P w base spare held fuel t cs = some x) :
    cs = [.slice none 0 0] ∨ ∃ (a : Addr) (len cap n : Nat), cs = [.slice (some a) len cap] ∧ len ≤ cap ∧ cap ≤ maxLen ∧
      ∀ i, i < len → ∀ (j : Nat) (f : Field), fs[j]? = some f → ∃ v y, w.cell? (a.add (i * fs.size + j)) = some v ∧ DataW.trod enc P w base spare held n f.type [v] = some y := by
  rcases open_slice ht h with h0 | ⟨a, len, cap, m, n, D, Pl, rfl, hb, hl, hm, hmm, rfl, hx⟩
  · exact Or.inl h0.1
  right
  have hlm : len ≤ m := by rw [hmm]; split <;> omega
  refine ⟨a, len, cap, n - 1, rfl, hl, hm, fun i hi j f hf => ?_⟩
  obtain ⟨cs', h1, h2⟩ := hx i (by omega)
  rw [ce] at h1
  obtain ⟨_, hlen, hcell⟩ := World.cells?_some h1
  obtain ⟨xs, k, hk, hxy, _, hxl, hf'⟩ := DataW.trod_struct he h2
  obtain rfl : k = n - 1 := by omega
  have hjs : j < fs.size := (Array.getElem?_eq_some_iff.1 hf).1
  have hjx : j < xs.length := by omega
  have hjc : j < cs'.length := by omega
  have g := hf' j f hf
  rw [(ho j f hf).1, (ho j f hf).2] at g
  have e1 : (cs'.drop j).take 1 = [cs'[j]] := by rw [List.drop_eq_getElem_cons hjc]; rfl
  rw [e1, List.getElem?_eq_getElem hjx] at g
  have e2 := hcell j (by omega)
  rw [add_add, List.getElem?_eq_getElem hjc] at e2
  exact ⟨_, _, e2, g⟩
end
end Go.Proofs.YtpafddeakanopaaDoor
