/- Rows of held trees: three tables of bits and powers, a pinned one, the handle, the thirteen: the condition. A law's argument of holdings, opened: as the walk wants it. -/
import Derived.Test.YtjebljhhbnfpfaaGreatDoorJHanded
import Derived.Test.YtjebljhhbnfpfaaGreatDoorJPackedUp
import Derived.Test.YtjebljhhbnfpfaaGreatDoorJHeldFacts
namespace Go.Proofs.YtjebljhhbnfpfaaGreatDoor
open Go Go.RowKit Go.ChangeShapes Go.WideShapes Go.ChangeAt Go.WideMaps Go.WideElems

theorem held_env {W : World} {laid : List (String × DataW Unit)} {a b c : String × DataW Unit} {rest : List (String × DataW Unit)} (h : laidMetH Tryz.prog laid W)
    (f1 : (laid.filter fun x => x.2.handleName?.isSome) = [("errors.errorType", Rows.laid_errors_errorType)])
    (f2 : (laid.filter fun x => x.2.handleName?.isNone) = a :: b :: ("internal/strconv.uint64pow10", Lib.tabData .u64 Lib.pow10Tab) :: c :: (apiErrs.map (fun x => (x.1, sentD x.2)) ++ rest)) (hm : W.ShapedOpen Tryz.prog) : ∃ E, KEnv E W := by
  unfold laidMetH at h
  rw [f1, f2] at h
  have h3 := h.1.tail.tail
  obtain ⟨E, hE⟩ := env_of h3.tail.tail (handle_of h.2 (List.mem_singleton.2 rfl))
  exact ⟨E, ⟨hE, ⟨hE.eName, hE.eFull, maxI_of hm⟩⟩, powTab_of h3⟩
end Go.Proofs.YtjebljhhbnfpfaaGreatDoor

namespace Go.Proofs.YtjebljhhbnfpfaaGreatDoor
open Go Go.RowKit Go.ChangeShapes Go.WideShapes Go.Deep

theorem Tryz.holdingStruct : ∃ f0 f1 f2 : Field, Tryz.prog.underlying 29 = some (.struct #[f0, f1, f2]) ∧ (f0.offset = 0 ∧ f1.offset = 1 ∧ f2.offset = 2) ∧ f0.type = 4 ∧ f1.type = 27 ∧ f2.type = 3 :=
  ⟨{ name := "Put", type := 4, offset := 0, embedded := false, tag := "", pkgPath := "", byteOffset := 0 },
    { name := "L", type := 27, offset := 1, embedded := false, tag := "", pkgPath := "", byteOffset := 8 },
    { name := "N", type := 3, offset := 2, embedded := false, tag := "", pkgPath := "", byteOffset := 32 }, Tryz.underlying29, ⟨rfl, rfl, rfl⟩, rfl, rfl, rfl⟩
theorem Tryz.cellsHolding : Tryz.prog.cellsOf 29 = 3 ∧ Tryz.prog.cellsOf 4 = 1 ∧ Tryz.prog.cellsOf 27 = 1 ∧ Tryz.prog.cellsOf 3 = 1 := ⟨by kernel_rfl, by kernel_rfl, by kernel_rfl, by kernel_rfl⟩
instance : Inhabited HoldB := ⟨⟨false, .slice none 0 0, [], 0⟩⟩

section
variable {H : Type} {enc : TypeId × Value → H} {W : World} {spare : Nat → Bool} {held : Bool}
set_option maxRecDepth 100000 in
theorem open_holdings {fuel : Nat} {v : Value} {x : DataW H × List MemPlace} (h : DataW.trod enc Tryz.prog W 0 spare held fuel 22 [v] = some x) : ∃ L : List HoldB, HRow W v L := by
  obtain ⟨f0, f1, f2, hu, ⟨o0, o1, o2⟩, ty0, ty1, ty2⟩ := Tryz.holdingStruct
  obtain ⟨cw, c0, c1, c2⟩ := Tryz.cellsHolding
  rcases open_slice_struct Tryz.underlying22 hu (by rw [cw]; rfl) (by
      intro j f hf
      match j with
      | 0 => obtain rfl : f0 = f := Option.some.inj hf; exact ⟨o0, by rw [ty0]; exact c0⟩
      | 1 => obtain rfl : f1 = f := Option.some.inj hf; exact ⟨o1, by rw [ty1]; exact c1⟩
      | 2 => obtain rfl : f2 = f := Option.some.inj hf; exact ⟨o2, by rw [ty2]; exact c2⟩
      | k + 3 => exact absurd hf (by simp)) h with hcs | ⟨a, len, cap, n, hcs, hl, hm, hx⟩
  · obtain rfl : v = .slice none 0 0 := by simpa using hcs
    exact ⟨[], ⟨none, 0, rfl, Nat.le_refl _, Nat.zero_le _, fun i hi => absurd hi (Nat.not_lt_zero _)⟩, fun x hx => by cases hx⟩
  · obtain rfl : v = .slice (some a) len cap := by simpa using hcs
    have each : ∀ i, i < len → ∃ r : HoldB, W.cell? (a.add (i * 3)) = some (.bool r.put) ∧ W.cell? (a.add (i * 3 + 1)) = some r.v ∧ W.cell? (a.add (i * 3 + 2)) = some (.int .i64 r.n) ∧ FArg W r.v r.l ∧ (Lit.int .i64 r.n).wf = true := by
      intro i hi
      obtain ⟨v0, y0, d0, t0⟩ := hx i hi 0 f0 rfl
      obtain ⟨v1, y1, d1, t1⟩ := hx i hi 1 f1 rfl
      obtain ⟨v2, y2, d2, t2⟩ := hx i hi 2 f2 rfl
      rw [ty0] at t0
      rw [ty1] at t1
      rw [ty2] at t2
      obtain ⟨b0, h0, _⟩ := DataW.trod_bool Tryz.underlying4 t0
      obtain ⟨l1, h1⟩ := open_files t1
      obtain ⟨m2, h2, _, hw⟩ := DataW.trod_int Tryz.underlying3 t2
      obtain rfl : v0 = .bool b0 := by simpa using h0
      obtain rfl : v2 = .int .i64 m2 := by simpa using h2
      exact ⟨⟨b0, v1, l1, m2⟩, d0, d1, d2, h1, hw⟩
    obtain ⟨R, hR⟩ := choose_lt each
    refine ⟨(List.range len).map R, ⟨some a, cap, by simp, by simp; omega, hm, fun i hi => ?_⟩, fun x hx => ?_⟩
    · simp only [List.length_map, List.length_range] at hi
      have hc0 := (hR i hi).1
      obtain ⟨b, off, spot⟩ := a
      have hspot : spot = none := World.cell?_spot (a := ⟨b, off, spot⟩) (by have := (hR 0 (by omega)).1; rw [Nat.zero_mul] at this; exact this)
      subst hspot
      refine ⟨b, off, rfl, by rw [add_plain] at hc0; exact lt_of_cellF hc0, fun k hk => ?_⟩
      simp only [List.length_map, List.length_range] at hk
      obtain ⟨d0, d1, d2, _⟩ := hR k hk
      rw [add_plain] at d0 d1 d2
      exact ⟨by simpa using d0, by simpa [Nat.add_assoc] using d1, by simpa [Nat.add_assoc] using d2⟩
    · obtain ⟨j, hj, rfl⟩ := List.mem_map.1 hx
      obtain ⟨_, _, _, h4, hw⟩ := hR j (List.mem_range.1 hj)
      refine ⟨h4, ?_⟩
      have hmin : IntKind.i64.min = -9223372036854775808 := by decide
      have hw' : -9223372036854775808 ≤ (R j).n ∧ (R j).n ≤ 9223372036854775807 := by simpa [Lit.wf, IntKind.bits, IntKind.signed, hmin] using hw
      exact hw'
set_option maxRecDepth 100000 in
theorem open_holdings_arg {v : Value} {d : DataW H} {p : List MemPlace} {r : Reach} {base : Nat} (hok : Value.okWide Tryz.prog W r base 22 v) (h : DataW.Trod enc Tryz.prog W 0 spare held 22 v d p) : ∃ L : List HoldB, HRow W v L := by
  obtain ⟨a, len, cap, rfl⟩ := okWide_slice Tryz.underlying22 hok
  obtain ⟨fuel, hf⟩ := h
  exact open_holdings hf
theorem i64_of {n : Int} (hw : (Lit.int .i64 n).wf = true) : I64 n := by
  have hmin : IntKind.i64.min = -9223372036854775808 := by decide
  have hw' : -9223372036854775808 ≤ n ∧ n ≤ 9223372036854775807 := by simpa [Lit.wf, IntKind.bits, IntKind.signed, hmin] using hw
  exact hw'
end
end Go.Proofs.YtjebljhhbnfpfaaGreatDoor
