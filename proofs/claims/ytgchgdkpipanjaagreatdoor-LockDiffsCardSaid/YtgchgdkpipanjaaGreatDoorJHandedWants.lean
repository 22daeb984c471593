/- What is wanted, handed in, opened. A law's argument of wants, opened: as the walk wants it. -/
import Derived.Test.YtgchgdkpipanjaaGreatDoorJWantsUp
import Derived.Test.YtgchgdkpipanjaaGreatDoorJHanded
import Derived.Deep.Strs
import Derived.Test.YtgchgdkpipanjaaGreatDoorJWantRows
namespace Go.Proofs.YtgchgdkpipanjaaGreatDoor
open Go Go.RowKit Go.ChangeShapes Go.WideShapes Go.Deep
theorem Tryz.wantStruct : ∃ f0 f1 f2 f3 f4 : Field, Tryz.prog.underlying 41 = some (.struct #[f0, f1, f2, f3, f4]) ∧ (f0.offset = 0 ∧ f1.offset = 1 ∧ f2.offset = 2 ∧ f3.offset = 3 ∧ f4.offset = 4) ∧ f0.type = 9 ∧ f1.type = 9 ∧ f2.type = 9 ∧ f3.type = 3 ∧ f4.type = 3 :=
  ⟨{ name := "Name", type := 9, offset := 0, embedded := false, tag := "", pkgPath := "", byteOffset := 0 },
    { name := "URL", type := 9, offset := 1, embedded := false, tag := "", pkgPath := "", byteOffset := 16 },
    { name := "Kind", type := 9, offset := 2, embedded := false, tag := "", pkgPath := "", byteOffset := 32 },
    { name := "Strip", type := 3, offset := 3, embedded := false, tag := "", pkgPath := "", byteOffset := 48 },
    { name := "Sum", type := 3, offset := 4, embedded := false, tag := "", pkgPath := "", byteOffset := 56 }, Tryz.underlying41, ⟨rfl, rfl, rfl, rfl, rfl⟩, rfl, rfl, rfl, rfl, rfl⟩
theorem Tryz.cellsWant : Tryz.prog.cellsOf 41 = 5 ∧ Tryz.prog.cellsOf 9 = 1 ∧ Tryz.prog.cellsOf 3 = 1 := ⟨by kernel_rfl, by kernel_rfl, by kernel_rfl⟩
section
variable {H : Type} {enc : TypeId × Value → H} {W : World} {spare : Nat → Bool} {held : Bool}
set_option maxRecDepth 100000 in
theorem open_want_arg {v : Value} {d : DataW H} {p : List MemPlace} {r : Reach} {base : Nat} (hok : Value.okWide Tryz.prog W r base 41 v) (h : DataW.Trod enc Tryz.prog W 0 spare held 41 v d p) : ∃ x : WantB, v = .agg #[.string x.name, .string x.url, .string x.kind, .int .i64 x.strip, .int .i64 x.sum] := by
  obtain ⟨f0, f1, f2, f3, f4, hu, ⟨o0, o1, o2, o3, o4⟩, ty0, ty1, ty2, ty3, ty4⟩ := Tryz.wantStruct
  obtain ⟨cw, c1, c2⟩ := Tryz.cellsWant
  obtain ⟨cs, rfl, hsz⟩ := okWide_struct hu hok
  obtain ⟨fuel, hf⟩ := h
  obtain ⟨xs, k, hk, hxy, _, hxl, hf'⟩ := DataW.trod_struct hu hf
  have hx5 : xs.length = 5 := hxl
  have t0 := hf' 0 f0 rfl
  have t1 := hf' 1 f1 rfl
  have t2 := hf' 2 f2 rfl
  have t3 := hf' 3 f3 rfl
  have t4 := hf' 4 f4 rfl
  rw [cw] at hsz
  rw [o0, ty0, c1, List.getElem?_eq_getElem (by omega)] at t0
  rw [o1, ty1, c1, List.getElem?_eq_getElem (by omega)] at t1
  rw [o2, ty2, c1, List.getElem?_eq_getElem (by omega)] at t2
  rw [o3, ty3, c2, List.getElem?_eq_getElem (by omega)] at t3
  rw [o4, ty4, c2, List.getElem?_eq_getElem (by omega)] at t4
  obtain ⟨L⟩ := cs
  match L, hsz with
  | [a, b, c, d, e], _ =>
    simp only [Value.cells, List.drop, List.take] at t0 t1 t2 t3 t4
    obtain ⟨s0, h0, _, _⟩ := DataW.trod_string Tryz.underlying9 t0
    obtain ⟨s1, h1, _, _⟩ := DataW.trod_string Tryz.underlying9 t1
    obtain ⟨s2, h2, _, _⟩ := DataW.trod_string Tryz.underlying9 t2
    obtain ⟨n3, h3, _, _⟩ := DataW.trod_int Tryz.underlying3 t3
    obtain ⟨n4, h4, _, _⟩ := DataW.trod_int Tryz.underlying3 t4
    obtain rfl : a = .string s0 := by simpa using h0
    obtain rfl : b = .string s1 := by simpa using h1
    obtain rfl : c = .string s2 := by simpa using h2
    obtain rfl : d = .int .i64 n3 := by simpa using h3
    obtain rfl : e = .int .i64 n4 := by simpa using h4
    exact ⟨⟨s0, s1, s2, n3, n4⟩, rfl⟩
end
end Go.Proofs.YtgchgdkpipanjaaGreatDoor

namespace Go.Proofs.YtgchgdkpipanjaaGreatDoor
open Go Go.RowKit Go.ChangeShapes Go.WideShapes Go.Deep

theorem lt_of_cellW {w : World} {a : Addr} {v : Value} (h : w.cell? a = some v) : a.block < w.heap.size := World.block_lt_of_cell? w a h
instance openWantsInh : Inhabited WantB := ⟨zeroW⟩
section
variable {H : Type} {enc : TypeId × Value → H} {W : World} {spare : Nat → Bool} {held : Bool}
set_option maxRecDepth 100000 in
theorem open_wants {fuel : Nat} {v : Value} {x : DataW H × List MemPlace} (h : DataW.trod enc Tryz.prog W 0 spare held fuel 22 [v] = some x) : ∃ l : List WantB, WArg W v l := by
  obtain ⟨f0, f1, f2, f3, f4, hu, ⟨o0, o1, o2, o3, o4⟩, ty0, ty1, ty2, ty3, ty4⟩ := Tryz.wantStruct
  obtain ⟨cw, c1, c2⟩ := Tryz.cellsWant
  rcases open_slice_struct Tryz.underlying22 hu (by rw [cw]; rfl) (by
      intro j f hf
      match j with
      | 0 => obtain rfl : f0 = f := Option.some.inj hf; exact ⟨o0, by rw [ty0]; exact c1⟩
      | 1 => obtain rfl : f1 = f := Option.some.inj hf; exact ⟨o1, by rw [ty1]; exact c1⟩
      | 2 => obtain rfl : f2 = f := Option.some.inj hf; exact ⟨o2, by rw [ty2]; exact c1⟩
      | 3 => obtain rfl : f3 = f := Option.some.inj hf; exact ⟨o3, by rw [ty3]; exact c2⟩
      | 4 => obtain rfl : f4 = f := Option.some.inj hf; exact ⟨o4, by rw [ty4]; exact c2⟩
      | k + 5 => exact absurd hf (by simp)) h with hcs | ⟨a, len, cap, n, hcs, hl, hm, hx⟩
  · obtain rfl : v = .slice none 0 0 := by simpa using hcs
    exact ⟨[], ⟨none, 0, rfl, Nat.le_refl _, Nat.zero_le _, fun i hi => absurd hi (Nat.not_lt_zero _)⟩, fun n c e => by injection e with _ e1 e2; exact ⟨e1.symm, e2.symm⟩⟩
  · obtain rfl : v = .slice (some a) len cap := by simpa using hcs
    have each : ∀ i, i < len → ∃ r : WantB, W.cell? (a.add (i * 5)) = some (.string r.name) ∧ W.cell? (a.add (i * 5 + 1)) = some (.string r.url) ∧ W.cell? (a.add (i * 5 + 2)) = some (.string r.kind) ∧ W.cell? (a.add (i * 5 + 3)) = some (.int .i64 r.strip) ∧ W.cell? (a.add (i * 5 + 4)) = some (.int .i64 r.sum) := by
      intro i hi
      obtain ⟨v0, y0, d0, t0⟩ := hx i hi 0 f0 rfl
      obtain ⟨v1, y1, d1, t1⟩ := hx i hi 1 f1 rfl
      obtain ⟨v2, y2, d2, t2⟩ := hx i hi 2 f2 rfl
      obtain ⟨v3, y3, d3, t3⟩ := hx i hi 3 f3 rfl
      obtain ⟨v4, y4, d4, t4⟩ := hx i hi 4 f4 rfl
      rw [ty0] at t0
      rw [ty1] at t1
      rw [ty2] at t2
      rw [ty3] at t3
      rw [ty4] at t4
      obtain ⟨s0, h0, _, _⟩ := DataW.trod_string Tryz.underlying9 t0
      obtain ⟨s1, h1, _, _⟩ := DataW.trod_string Tryz.underlying9 t1
      obtain ⟨s2, h2, _, _⟩ := DataW.trod_string Tryz.underlying9 t2
      obtain ⟨n3, h3, _, _⟩ := DataW.trod_int Tryz.underlying3 t3
      obtain ⟨n4, h4, _, _⟩ := DataW.trod_int Tryz.underlying3 t4
      obtain rfl : v0 = .string s0 := by simpa using h0
      obtain rfl : v1 = .string s1 := by simpa using h1
      obtain rfl : v2 = .string s2 := by simpa using h2
      obtain rfl : v3 = .int .i64 n3 := by simpa using h3
      obtain rfl : v4 = .int .i64 n4 := by simpa using h4
      exact ⟨⟨s0, s1, s2, n3, n4⟩, d0, d1, d2, d3, d4⟩
    obtain ⟨R, hR⟩ := choose_lt each
    refine ⟨(List.range len).map R, ⟨some a, cap, by simp, by simp; omega, hm, fun i hi => ?_⟩, fun n c e => by injection e with e0; cases e0⟩
    simp only [List.length_map, List.length_range] at hi
    have hc0 := (hR i hi).1
    obtain ⟨b, off, spot⟩ := a
    have hspot : spot = none := World.cell?_spot (a := ⟨b, off, spot⟩) (by have := (hR 0 (by omega)).1; rw [Nat.zero_mul] at this; exact this)
    subst hspot
    refine ⟨b, off, rfl, by rw [add_plain] at hc0; exact lt_of_cellW hc0, fun k hk => ?_⟩
    simp only [List.length_map, List.length_range] at hk
    obtain ⟨d0, d1, d2, d3, d4⟩ := hR k hk
    rw [add_plain] at d0 d1 d2 d3 d4
    exact ⟨by simpa using d0, by simpa [Nat.add_assoc] using d1, by simpa [Nat.add_assoc] using d2, by simpa [Nat.add_assoc] using d3, by simpa [Nat.add_assoc] using d4⟩
set_option maxRecDepth 100000 in
theorem open_wants_arg {v : Value} {d : DataW H} {p : List MemPlace} {r : Reach} {base : Nat} (hok : Value.okWide Tryz.prog W r base 22 v) (h : DataW.Trod enc Tryz.prog W 0 spare held 22 v d p) : ∃ l : List WantB, WArg W v l := by
  obtain ⟨a, len, cap, rfl⟩ := okWide_slice Tryz.underlying22 hok
  obtain ⟨fuel, hf⟩ := h
  exact open_wants hf
end
end Go.Proofs.YtgchgdkpipanjaaGreatDoor
