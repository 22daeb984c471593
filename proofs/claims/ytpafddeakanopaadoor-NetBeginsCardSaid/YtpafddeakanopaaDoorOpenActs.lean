/- A law's argument of acts, opened: as the walk wants it; the environment of nets. -/
import Derived.Test.YtpafddeakanopaaDoorNetParts
import Derived.Test.YtpafddeakanopaaDoorOpenStruct
namespace Go.Proofs.YtpafddeakanopaaDoor
open Go Go.RowKit Go.ChangeShapes Go.WideShapes Go.Deep

theorem nenv_of {E : Nat → Addr} {w : World} (hE : Env E w) (hm : ∃ m, w.cell? ⟨14, 0, none⟩ = some (.int .i64 m)) : NEnv E w :=
  ⟨hE, ⟨⟨hE.eName, hE.eFull, hm⟩, hE.eText, hE.eKind, hE.eNone⟩⟩
theorem Tryd.actStruct : ∃ f0 f1 f2 f3 f4 : Field, Tryd.prog.underlying 64 = some (.struct #[f0, f1, f2, f3, f4]) ∧ (f0.offset = 0 ∧ f1.offset = 1 ∧ f2.offset = 2 ∧ f3.offset = 3 ∧ f4.offset = 4) ∧ f0.type = 9 ∧ f1.type = 9 ∧ f2.type = 9 ∧ f3.type = 3 ∧ f4.type = 4 :=
  ⟨{ name := "Kind", type := 9, offset := 0, embedded := false, tag := "", pkgPath := "", byteOffset := 0 },
    { name := "URL", type := 9, offset := 1, embedded := false, tag := "", pkgPath := "", byteOffset := 16 },
    { name := "S", type := 9, offset := 2, embedded := false, tag := "", pkgPath := "", byteOffset := 32 },
    { name := "N", type := 3, offset := 3, embedded := false, tag := "", pkgPath := "", byteOffset := 48 },
    { name := "On", type := 4, offset := 4, embedded := false, tag := "", pkgPath := "", byteOffset := 56 }, Tryd.underlying64, ⟨rfl, rfl, rfl, rfl, rfl⟩, rfl, rfl, rfl, rfl, rfl⟩
theorem Tryd.cellsAct : Tryd.prog.cellsOf 64 = 5 ∧ Tryd.prog.cellsOf 9 = 1 ∧ Tryd.prog.cellsOf 3 = 1 ∧ Tryd.prog.cellsOf 4 = 1 := ⟨by kernel_rfl, by kernel_rfl, by kernel_rfl, by kernel_rfl⟩
theorem lt_of_cellA {w : World} {a : Addr} {v : Value} (h : w.cell? a = some v) : a.block < w.heap.size := World.block_lt_of_cell? w a h

section
variable {H : Type} {enc : TypeId × Value → H} {W : World} {spare : Nat → Bool} {held : Bool}
theorem trod_bool {P : Program} {w : World} {base : Nat} {t : TypeId} {fuel : Nat} {cs : List Value} {x : DataW H × List MemPlace} (ht : P.underlying t = some .bool) (h : DataW.trod enc P w base spare held fuel t cs = some x) : ∃ b : Bool, cs = [.bool b] := by
  cases fuel with
  | zero => simp [DataW.trod] at h
  | succ n =>
    unfold DataW.trod at h
    rw [ht] at h
    split at h <;> simp_all
set_option maxRecDepth 100000 in
theorem open_acts {fuel : Nat} {v : Value} {x : DataW H × List MemPlace} (h : DataW.trod enc Tryd.prog W 0 spare held fuel 59 [v] = some x) : ∃ l : List ActB, ARow W v l := by
  obtain ⟨f0, f1, f2, f3, f4, hu, ⟨o0, o1, o2, o3, o4⟩, ty0, ty1, ty2, ty3, ty4⟩ := Tryd.actStruct
  obtain ⟨cw, c1, c2, c3⟩ := Tryd.cellsAct
  rcases open_slice_struct Tryd.underlying59 hu (by rw [cw]; rfl) (by
      intro j f hf
      match j with
      | 0 => obtain rfl : f0 = f := Option.some.inj hf; exact ⟨o0, by rw [ty0]; exact c1⟩
      | 1 => obtain rfl : f1 = f := Option.some.inj hf; exact ⟨o1, by rw [ty1]; exact c1⟩
      | 2 => obtain rfl : f2 = f := Option.some.inj hf; exact ⟨o2, by rw [ty2]; exact c1⟩
      | 3 => obtain rfl : f3 = f := Option.some.inj hf; exact ⟨o3, by rw [ty3]; exact c2⟩
      | 4 => obtain rfl : f4 = f := Option.some.inj hf; exact ⟨o4, by rw [ty4]; exact c3⟩
      | k + 5 => exact absurd hf (by simp)) h with hcs | ⟨a, len, cap, n, hcs, hl, hm, hx⟩
  · obtain rfl : v = .slice none 0 0 := by simpa using hcs
    exact ⟨[], none, 0, rfl, Nat.le_refl _, Nat.zero_le _, fun i hi => absurd hi (Nat.not_lt_zero _)⟩
  · obtain rfl : v = .slice (some a) len cap := by simpa using hcs
    have each : ∀ i, i < len → ∃ r : ActB, W.cell? (a.add (i * 5)) = some (.string r.kind) ∧ W.cell? (a.add (i * 5 + 1)) = some (.string r.url) ∧ W.cell? (a.add (i * 5 + 2)) = some (.string r.s) ∧ W.cell? (a.add (i * 5 + 3)) = some (.int .i64 r.n) ∧ W.cell? (a.add (i * 5 + 4)) = some (.bool r.on) ∧ (Lit.int .i64 r.n).wf = true := by
      intro i hi
      obtain ⟨v0, y0, d0, t0⟩ := hx i hi 0 f0 rfl
      obtain ⟨v1, y1, d1, t1⟩ := hx i hi 1 f1 rfl
      obtain ⟨v2, y2, d2, t2⟩ := hx i hi 2 f2 rfl
      obtain ⟨v3, y3, d3, t3⟩ := hx i hi 3 f3 rfl
      obtain ⟨v4, y4, d4, t4⟩ := hx i hi 4 f4 rfl
      rw [ty0] at t0
      rw [ty1] at t1
      rw [ty2] at t2
      rw [ty3] at t3
      rw [ty4] at t4
      obtain ⟨s0, h0, _, _⟩ := DataW.trod_string Tryd.underlying9 t0
      obtain ⟨s1, h1, _, _⟩ := DataW.trod_string Tryd.underlying9 t1
      obtain ⟨s2, h2, _, _⟩ := DataW.trod_string Tryd.underlying9 t2
      obtain ⟨m3, h3, _, hw⟩ := DataW.trod_int Tryd.underlying3 t3
      obtain ⟨b4, h4⟩ := trod_bool Tryd.underlying4 t4
      obtain rfl : v0 = .string s0 := by simpa using h0
      obtain rfl : v1 = .string s1 := by simpa using h1
      obtain rfl : v2 = .string s2 := by simpa using h2
      obtain rfl : v3 = .int .i64 m3 := by simpa using h3
      obtain rfl : v4 = .bool b4 := by simpa using h4
      exact ⟨⟨s0, s1, s2, m3, b4⟩, d0, d1, d2, d3, d4, hw⟩
    have : Inhabited ActB := ⟨⟨⟨#[]⟩, ⟨#[]⟩, ⟨#[]⟩, 0, false⟩⟩
    obtain ⟨R, hR⟩ := choose_lt each
    refine ⟨(List.range len).map R, some a, cap, by simp, by simp; omega, hm, fun i hi => ?_⟩
    simp only [List.length_map, List.length_range] at hi
    have hc0 := (hR i hi).1
    obtain ⟨b, off, spot⟩ := a
    have hspot : spot = none := World.cell?_spot (a := ⟨b, off, spot⟩) (by have := (hR 0 (by omega)).1; rw [Nat.zero_mul] at this; exact this)
    subst hspot
    refine ⟨b, off, rfl, by rw [add_plain] at hc0; exact lt_of_cellA hc0, fun k hk => ?_⟩
    simp only [List.length_map, List.length_range] at hk
    obtain ⟨d0, d1, d2, d3, d4, hw⟩ := hR k hk
    rw [add_plain] at d0 d1 d2 d3 d4
    have hmin : IntKind.i64.min = -9223372036854775808 := by decide
    have hw' : -9223372036854775808 ≤ (R k).n ∧ (R k).n ≤ 9223372036854775807 := by simpa [Lit.wf, IntKind.bits, IntKind.signed, hmin] using hw
    refine ⟨by simpa using d0, by simpa [Nat.add_assoc] using d1, by simpa [Nat.add_assoc] using d2, by simpa [Nat.add_assoc] using d3, by simpa [Nat.add_assoc] using d4, by simpa using hw'.1, by simpa using hw'.2⟩
set_option maxRecDepth 100000 in
theorem open_acts_arg {v : Value} {d : DataW H} {p : List MemPlace} {r : Reach} {base : Nat} (hok : Value.okWide Tryd.prog W r base 59 v) (h : DataW.Trod enc Tryd.prog W 0 spare held 59 v d p) : ∃ l : List ActB, ARow W v l := by
  obtain ⟨a, len, cap, rfl⟩ := okWide_slice Tryd.underlying59 hok
  obtain ⟨fuel, hf⟩ := h
  exact open_acts hf
end
end Go.Proofs.YtpafddeakanopaaDoor
