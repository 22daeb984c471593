/- A law's argument of rules, opened: as the walk wants it. -/
import Derived.Test.YtpafddeakanopaaGreatDoorMirror
import Derived.Deep.SlicePairs
import Derived.Deep.Strs
import Derived.WideShapes
import Derived.DataReads
namespace Go.Proofs.YtpafddeakanopaaGreatDoor
open Go Go.RowKit Go.ChangeShapes Go.WideShapes Go.Deep

theorem Tryz.cellsStr : Tryz.prog.cellsOf 9 = 1 := by kernel_rfl
theorem Tryz.cellsStrs : Tryz.prog.cellsOf 33 = 1 := by kernel_rfl
theorem Tryz.cellsRule : Tryz.prog.cellsOf 41 = 2 := by kernel_rfl

section
variable {H : Type} {enc : TypeId × Value → H} {W : World} {spare : Nat → Bool} {held : Bool}

theorem lt_of_cellA {w : World} {a : Addr} {v : Value} (h : w.cell? a = some v) : a.block < w.heap.size := World.block_lt_of_cell? w a h

/-- Texts that came in. -/
theorem open_texts {fuel : Nat} {v : Value} {x : DataW H × List MemPlace} (h : DataW.trod enc Tryz.prog W 0 spare held fuel 33 [v] = some x) : ∃ zs : List ByteArray, RowP W v zs := by
  rcases open_strs Tryz.underlying33 Tryz.underlying9 Tryz.cellsStr h with ⟨hcs, hx⟩ | ⟨a, len, cap, m, Sx, hcs, _, hl, hm, hmm, hx, hcell⟩
  · obtain rfl : v = .slice none 0 0 := by simpa using hcs
    exact ⟨[], none, 0, rfl, Nat.le_refl _, Nat.zero_le _, fun _ => rfl, fun i hi => absurd hi (Nat.not_lt_zero _)⟩
  · obtain rfl : v = .slice (some a) len cap := by simpa using hcs
    have hlm : len ≤ m := by rw [hmm]; split <;> omega
    refine ⟨(List.range len).map Sx, some a, cap, by simp, by simp; omega, hm, (fun h => by cases h), fun i hi => ?_⟩
    simp only [List.length_map, List.length_range] at hi
    have hc0 := (hcell i (by omega)).1
    obtain ⟨b, off, spot⟩ := a
    have hspot : spot = none := World.cell?_spot (a := ⟨b, off, spot⟩) (hcell 0 (by omega)).1
    subst hspot
    refine ⟨b, off, rfl, by rw [add_plain] at hc0; exact lt_of_cellA hc0, fun k hk => ?_⟩
    simp only [List.length_map, List.length_range] at hk
    have := (hcell k (by omega)).1
    rw [add_plain] at this
    simpa using this

theorem Tryz.ruleStruct : ∃ f0 f1 : Field, Tryz.prog.underlying 41 = some (.struct #[f0, f1]) ∧ f0.offset = 0 ∧ f1.offset = 1 ∧ f0.type = 9 ∧ f1.type = 33 :=
  ⟨{ name := "From", type := 9, offset := 0, embedded := false, tag := "", pkgPath := "", byteOffset := 0 },
    { name := "To", type := 33, offset := 1, embedded := false, tag := "", pkgPath := "", byteOffset := 16 }, Tryz.underlying41, rfl, rfl, rfl, rfl⟩

/-- Rules that came in. -/
theorem open_rules {fuel : Nat} {v : Value} {x : DataW H × List MemPlace} (h : DataW.trod enc Tryz.prog W 0 spare held fuel 22 [v] = some x) : ∃ l : List RuleB, RulesRow W v l := by
  obtain ⟨f0, f1, hu, o0, o1, ty0, ty1⟩ := Tryz.ruleStruct
  rcases open_slice_pairs Tryz.underlying22 hu Tryz.cellsRule o0 o1 (by rw [ty0]; exact Tryz.cellsStr) (by rw [ty1]; exact Tryz.cellsStrs) h with ⟨hcs, hx⟩ | ⟨a, len, cap, m, n, V0, V1, D0, D1, P0, P1, hcs, _, hl, hm, hmm, hx, hcell⟩
  · obtain rfl : v = .slice none 0 0 := by simpa using hcs
    exact ⟨[], none, 0, rfl, Nat.le_refl _, Nat.zero_le _, fun i hi => absurd hi (Nat.not_lt_zero _)⟩
  · obtain rfl : v = .slice (some a) len cap := by simpa using hcs
    have hlm : len ≤ m := by rw [hmm]; split <;> omega
    have each : ∀ i, i < len → ∃ r : RuleB, W.cell? (a.add (i * 2)) = some (.string r.1) ∧ ∃ tv, W.cell? (a.add (i * 2 + 1)) = some tv ∧ RowP W tv r.2 := by
      intro i hi
      obtain ⟨c0, c1, t0, t1⟩ := hcell i (by omega)
      rw [ty0] at t0
      rw [ty1] at t1
      obtain ⟨s, h1, _, _⟩ := DataW.trod_string Tryz.underlying9 t0
      obtain ⟨zs, hz⟩ := open_texts t1
      have e0 : V0 i = .string s := by simpa using h1
      exact ⟨(s, zs), by rw [c0, e0], V1 i, c1, hz⟩
    obtain ⟨R, hR⟩ := choose_lt each
    refine ⟨(List.range len).map R, some a, cap, by simp, by simp; omega, hm, fun i hi => ?_⟩
    simp only [List.length_map, List.length_range] at hi
    have hc0 := (hR i hi).1
    obtain ⟨b, off, spot⟩ := a
    have hspot : spot = none := World.cell?_spot (a := ⟨b, off, spot⟩) (by have := (hR 0 (by omega)).1; rw [Nat.zero_mul] at this; exact this)
    subst hspot
    refine ⟨b, off, rfl, by rw [add_plain] at hc0; exact lt_of_cellA hc0, fun k hk => ?_⟩
    simp only [List.length_map, List.length_range] at hk
    obtain ⟨c1, tv, c2, c3⟩ := hR k hk
    rw [add_plain] at c1 c2
    refine ⟨by simpa using c1, tv, by simpa [Nat.add_assoc] using c2, by simpa using c3⟩
set_option maxRecDepth 100000 in
theorem open_rules_arg {v : Value} {d : DataW H} {p : List MemPlace} {r : Reach} {base : Nat} (hok : Value.okWide Tryz.prog W r base 22 v) (h : DataW.Trod enc Tryz.prog W 0 spare held 22 v d p) : ∃ l : List RuleB, RulesRow W v l := by
  obtain ⟨a, len, cap, rfl⟩ := okWide_slice Tryz.underlying22 hok
  obtain ⟨fuel, hf⟩ := h
  exact open_rules hf
end
end Go.Proofs.YtpafddeakanopaaGreatDoor
