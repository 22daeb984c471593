/- What is wanted, handed in, opened. -/
import Derived.Test.YtamimigpnhblmaaGreatDoorJWantsUp
import Derived.Test.YtamimigpnhblmaaGreatDoorJHanded
import Derived.Deep.Strs
namespace Go.Proofs.YtamimigpnhblmaaGreatDoor
open Go Go.RowKit Go.ChangeShapes Go.WideShapes Go.Deep
theorem Tryz.wantStruct : ∃ f0 f1 f2 f3 f4 : Field, Tryz.prog.underlying 51 = some (.struct #[f0, f1, f2, f3, f4]) ∧ (f0.offset = 0 ∧ f1.offset = 1 ∧ f2.offset = 2 ∧ f3.offset = 3 ∧ f4.offset = 4) ∧ f0.type = 9 ∧ f1.type = 9 ∧ f2.type = 9 ∧ f3.type = 3 ∧ f4.type = 3 :=
  ⟨{ name := "Name", type := 9, offset := 0, embedded := false, tag := "", pkgPath := "", byteOffset := 0 },
    { name := "URL", type := 9, offset := 1, embedded := false, tag := "", pkgPath := "", byteOffset := 16 },
    { name := "Kind", type := 9, offset := 2, embedded := false, tag := "", pkgPath := "", byteOffset := 32 },
    { name := "Strip", type := 3, offset := 3, embedded := false, tag := "", pkgPath := "", byteOffset := 48 },
    { name := "Sum", type := 3, offset := 4, embedded := false, tag := "", pkgPath := "", byteOffset := 56 }, Tryz.underlying51, ⟨rfl, rfl, rfl, rfl, rfl⟩, rfl, rfl, rfl, rfl, rfl⟩
theorem Tryz.cellsWant : Tryz.prog.cellsOf 51 = 5 ∧ Tryz.prog.cellsOf 9 = 1 ∧ Tryz.prog.cellsOf 3 = 1 := ⟨by kernel_rfl, by kernel_rfl, by kernel_rfl⟩
section
variable {H : Type} {enc : TypeId × Value → H} {W : World} {spare : Nat → Bool} {held : Bool}
set_option maxRecDepth 100000 in
theorem open_want_arg {v : Value} {d : DataW H} {p : List MemPlace} {r : Reach} {base : Nat} (hok : Value.okWide Tryz.prog W r base 51 v) (h : DataW.Trod enc Tryz.prog W 0 spare held 51 v d p) : ∃ x : WantB, v = .agg #[.string x.name, .string x.url, .string x.kind, .int .i64 x.strip, .int .i64 x.sum] := by
  obtain ⟨f0, f1, f2, f3, f4, hu, ⟨o0, o1, o2, o3, o4⟩, ty0, ty1, ty2, ty3, ty4⟩ := Tryz.wantStruct
  obtain ⟨cw, c1, c2⟩ := Tryz.cellsWant
  obtain ⟨cs, rfl, hsz⟩ := okWide_struct hu hok
  obtain ⟨fuel, hf⟩ := h
  obtain ⟨xs, k, hk, hxy, _, hxl, hf'⟩ := DataW.trod_struct hu hf
  have hx5 : xs.length = 5 := hxl
  have t0 := hf' 0 f0 rfl
  have t1 := hf' 1 f1 rfl
  have t2 := hf' 2 f2 rfl
  have t3 := hf' 3 f3 rfl
  have t4 := hf' 4 f4 rfl
  rw [cw] at hsz
  rw [o0, ty0, c1, List.getElem?_eq_getElem (by omega)] at t0
  rw [o1, ty1, c1, List.getElem?_eq_getElem (by omega)] at t1
  rw [o2, ty2, c1, List.getElem?_eq_getElem (by omega)] at t2
  rw [o3, ty3, c2, List.getElem?_eq_getElem (by omega)] at t3
  rw [o4, ty4, c2, List.getElem?_eq_getElem (by omega)] at t4
  obtain ⟨L⟩ := cs
  match L, hsz with
  | [a, b, c, d, e], _ =>
    simp only [Value.cells, List.drop, List.take] at t0 t1 t2 t3 t4
    obtain ⟨s0, h0, _, _⟩ := DataW.trod_string Tryz.underlying9 t0
    obtain ⟨s1, h1, _, _⟩ := DataW.trod_string Tryz.underlying9 t1
    obtain ⟨s2, h2, _, _⟩ := DataW.trod_string Tryz.underlying9 t2
    obtain ⟨n3, h3, _, _⟩ := DataW.trod_int Tryz.underlying3 t3
    obtain ⟨n4, h4, _, _⟩ := DataW.trod_int Tryz.underlying3 t4
    obtain rfl : a = .string s0 := by simpa using h0
    obtain rfl : b = .string s1 := by simpa using h1
    obtain rfl : c = .string s2 := by simpa using h2
    obtain rfl : d = .int .i64 n3 := by simpa using h3
    obtain rfl : e = .int .i64 n4 := by simpa using h4
    exact ⟨⟨s0, s1, s2, n3, n4⟩, rfl⟩
end
end Go.Proofs.YtamimigpnhblmaaGreatDoor
