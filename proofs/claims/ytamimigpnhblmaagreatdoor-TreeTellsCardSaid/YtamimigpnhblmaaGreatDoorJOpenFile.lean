/- A file that is handed in, opened. -/
import Derived.Test.YtamimigpnhblmaaGreatDoorJHanded
import Derived.Deep.Strs
namespace Go.Proofs.YtamimigpnhblmaaGreatDoor
open Go Go.RowKit Go.ChangeShapes Go.WideShapes Go.Deep
section
variable {H : Type} {enc : TypeId × Value → H} {W : World} {spare : Nat → Bool} {held : Bool}
set_option maxRecDepth 100000 in
theorem open_file_arg {v : Value} {d : DataW H} {p : List MemPlace} {r : Reach} {base : Nat} (hok : Value.okWide Tryz.prog W r base 24 v) (h : DataW.Trod enc Tryz.prog W 0 spare held 24 v d p) : ∃ f : FileB, v = .agg (encFile f).toArray := by
  obtain ⟨f0, f1, f2, hu, ⟨o0, o1, o2⟩, ty0, ty1, ty2⟩ := Tryz.fileStruct
  obtain ⟨cw, c1, c2⟩ := Tryz.cellsFile
  obtain ⟨cs, rfl, hsz⟩ := okWide_struct hu hok
  obtain ⟨fuel, hf⟩ := h
  obtain ⟨y0, y1, y2, n, _, _, t0, t1, t2⟩ := trod_struct3 hu hf
  rw [cw] at hsz
  rw [o0, ty0, c1] at t0
  rw [o1, ty1, c2] at t1
  rw [o2, ty2, c1] at t2
  obtain ⟨L⟩ := cs
  match L, hsz with
  | [a, b, c], _ =>
    simp only [Value.cells, List.drop, List.take] at t0 t1 t2
    obtain ⟨s0, h0, _, _⟩ := DataW.trod_string Tryz.underlying9 t0
    obtain ⟨b1, h1, _⟩ := DataW.trod_bool Tryz.underlying4 t1
    obtain ⟨s2, h2, _, _⟩ := DataW.trod_string Tryz.underlying9 t2
    obtain rfl : a = .string s0 := by simpa using h0
    obtain rfl : b = .bool b1 := by simpa using h1
    obtain rfl : c = .string s2 := by simpa using h2
    exact ⟨⟨s0, b1, s2⟩, rfl⟩
end
end Go.Proofs.YtamimigpnhblmaaGreatDoor
