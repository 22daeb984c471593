/- A law's argument of writes, opened: as the walk wants it. -/
import Derived.Test.YtpafddeakanopaaDoorTapeActsLaw
import Derived.Test.YtpafddeakanopaaDoorOpenStruct
namespace Go.Proofs.YtpafddeakanopaaDoor
open Go Go.RowKit Go.ChangeShapes Go.WideShapes Go.Deep

theorem Tryd.writeStruct : ∃ f0 f1 f2 : Field, Tryd.prog.underlying 53 = some (.struct #[f0, f1, f2]) ∧ (f0.offset = 0 ∧ f1.offset = 1 ∧ f2.offset = 2) ∧ f0.type = 9 ∧ f1.type = 9 ∧ f2.type = 3 :=
  ⟨{ name := "Kind", type := 9, offset := 0, embedded := false, tag := "", pkgPath := "", byteOffset := 0 },
    { name := "S", type := 9, offset := 1, embedded := false, tag := "", pkgPath := "", byteOffset := 16 },
    { name := "N", type := 3, offset := 2, embedded := false, tag := "", pkgPath := "", byteOffset := 32 }, Tryd.underlying53, ⟨rfl, rfl, rfl⟩, rfl, rfl, rfl⟩
theorem Tryd.cellsWrite : Tryd.prog.cellsOf 53 = 3 ∧ Tryd.prog.cellsOf 9 = 1 ∧ Tryd.prog.cellsOf 3 = 1 := ⟨by kernel_rfl, by kernel_rfl, by kernel_rfl⟩
theorem lt_of_cellA {w : World} {a : Addr} {v : Value} (h : w.cell? a = some v) : a.block < w.heap.size := World.block_lt_of_cell? w a h

section
variable {H : Type} {enc : TypeId × Value → H} {W : World} {spare : Nat → Bool} {held : Bool}
set_option maxRecDepth 100000 in
theorem open_writes {fuel : Nat} {v : Value} {x : DataW H × List MemPlace} (h : DataW.trod enc Tryd.prog W 0 spare held fuel 48 [v] = some x) : ∃ l : List WriteB, WRow W v l := by
  obtain ⟨f0, f1, f2, hu, ⟨o0, o1, o2⟩, ty0, ty1, ty2⟩ := Tryd.writeStruct
  obtain ⟨cw, c1, c2⟩ := Tryd.cellsWrite
  rcases open_slice_struct Tryd.underlying48 hu (by rw [cw]; rfl) (by
      intro j f hf
      match j with
      | 0 => obtain rfl : f0 = f := Option.some.inj hf; exact ⟨o0, by rw [ty0]; exact c1⟩
      | 1 => obtain rfl : f1 = f := Option.some.inj hf; exact ⟨o1, by rw [ty1]; exact c1⟩
      | 2 => obtain rfl : f2 = f := Option.some.inj hf; exact ⟨o2, by rw [ty2]; exact c2⟩
      | k + 3 => exact absurd hf (by simp)) h with hcs | ⟨a, len, cap, n, hcs, hl, hm, hx⟩
  · obtain rfl : v = .slice none 0 0 := by simpa using hcs
    exact ⟨[], none, 0, rfl, Nat.le_refl _, Nat.zero_le _, fun i hi => absurd hi (Nat.not_lt_zero _)⟩
  · obtain rfl : v = .slice (some a) len cap := by simpa using hcs
    have each : ∀ i, i < len → ∃ r : WriteB, W.cell? (a.add (i * 3)) = some (.string r.1) ∧ W.cell? (a.add (i * 3 + 1)) = some (.string r.2.1) ∧ W.cell? (a.add (i * 3 + 2)) = some (.int .i64 r.2.2) ∧ (Lit.int .i64 r.2.2).wf = true := by
      intro i hi
      obtain ⟨v0, y0, d0, t0⟩ := hx i hi 0 f0 rfl
      obtain ⟨v1, y1, d1, t1⟩ := hx i hi 1 f1 rfl
      obtain ⟨v2, y2, d2, t2⟩ := hx i hi 2 f2 rfl
      rw [ty0] at t0
      rw [ty1] at t1
      rw [ty2] at t2
      obtain ⟨s0, h0, _, _⟩ := DataW.trod_string Tryd.underlying9 t0
      obtain ⟨s1, h1, _, _⟩ := DataW.trod_string Tryd.underlying9 t1
      obtain ⟨m2, h2, _, hw⟩ := DataW.trod_int Tryd.underlying3 t2
      obtain rfl : v0 = .string s0 := by simpa using h0
      obtain rfl : v1 = .string s1 := by simpa using h1
      obtain rfl : v2 = .int .i64 m2 := by simpa using h2
      exact ⟨(s0, s1, m2), d0, d1, d2, hw⟩
    obtain ⟨R, hR⟩ := choose_lt each
    refine ⟨(List.range len).map R, some a, cap, by simp, by simp; omega, hm, fun i hi => ?_⟩
    simp only [List.length_map, List.length_range] at hi
    have hc0 := (hR i hi).1
    obtain ⟨b, off, spot⟩ := a
    have hspot : spot = none := World.cell?_spot (a := ⟨b, off, spot⟩) (by have := (hR 0 (by omega)).1; rw [Nat.zero_mul] at this; exact this)
    subst hspot
    refine ⟨b, off, rfl, by rw [add_plain] at hc0; exact lt_of_cellA hc0, fun k hk => ?_⟩
    simp only [List.length_map, List.length_range] at hk
    obtain ⟨d0, d1, d2, hw⟩ := hR k hk
    rw [add_plain] at d0 d1 d2
    have hmin : IntKind.i64.min = -9223372036854775808 := by decide
    have hw' : -9223372036854775808 ≤ (R k).2.2 ∧ (R k).2.2 ≤ 9223372036854775807 := by simpa [Lit.wf, IntKind.bits, IntKind.signed, hmin] using hw
    refine ⟨by simpa using d0, by simpa [Nat.add_assoc] using d1, by simpa [Nat.add_assoc] using d2, by simpa using hw'.1, by simpa using hw'.2⟩
set_option maxRecDepth 100000 in
theorem open_writes_arg {v : Value} {d : DataW H} {p : List MemPlace} {r : Reach} {base : Nat} (hok : Value.okWide Tryd.prog W r base 48 v) (h : DataW.Trod enc Tryd.prog W 0 spare held 48 v d p) : ∃ l : List WriteB, WRow W v l := by
  obtain ⟨a, len, cap, rfl⟩ := okWide_slice Tryd.underlying48 hok
  obtain ⟨fuel, hf⟩ := h
  exact open_writes hf
end
end Go.Proofs.YtpafddeakanopaaDoor
