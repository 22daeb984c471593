/- held: Copy, Same: contracts. -/
import Derived.Test.YtjebljhhbnfpfaaGreatDoorJHeldPut
import Derived.Shelf.SlMaps.Clone
namespace Go.Proofs.YtjebljhhbnfpfaaGreatDoor
open Go Go.RowKit Go.Maps

set_option maxRecDepth 100000 in
theorem mapsClone_any (b : Nat) (es : Array MapEntry) (clock : Nat) (w : World) (hb : w.heap[b]? = some (.map es clock)) :
    Calls Tryz.prog 46 #[.map (some b)] w fun e w' => e = .returned (.map (some w.heap.size)) ∧ w' = w.alloc (.map es clock) := by
  have hq := fun w => run_eql_map_nil_sl (P := Tryz.prog) w 73 _ _ (some b) Tryz.underlying73
  go_enter Tryz.func46, Tryz.ntmps46
  go_wp2
  rw [run_callFunc_extern Tryz.func60 (by kernel_rfl) (by kernel_rfl) (by kernel_rfl) (e := Extern.MapsClone.clone) (by kernel_rfl), run_maps_clone_sl w 73 hb]
  simp only [Result.andThen]
  rw [Oper.upon_value]
  go_wp2
  rw [run_typeAssert_map_sl _ 73 _ _ _ _ Tryz.underlying73]
  simp only [Result.andThen]
  rw [Oper.upon_value]
  go_wp2
  go_ret
  exact ⟨rfl, rfl⟩
theorem MapI.copy {w w' : World} {b b' m : Nat} {f : Int → Option Value} {es : Array MapEntry} {c : Nat} (h : MapI w b m f) (he : w.heap[b]? = some (.map es c)) (hb : w'.heap[b']? = some (.map es c)) : MapI w' b' m f := by
  obtain ⟨D, ⟨es', clock, h1, F, hs, hD⟩, h2⟩ := h
  rw [he] at h1
  simp only [Option.some.injEq, Obj.map.injEq] at h1
  obtain ⟨rfl, rfl⟩ := h1
  exact ⟨D, ⟨es, c, hb, F, hs, hD⟩, h2⟩
def HCopyPost (B : Nat) (h : HeldB) (w : World) (e : Ending) (w' : World) : Prop := (∃ b, e = .returned (.pointer (some ⟨b, 0, none⟩)) ∧ Hid (HeldIs w' B b h) ∧ w.heap.size ≤ b) ∧ Below w.heap.size w w'

set_option maxHeartbeats 1000000 in
set_option maxRecDepth 100000 in
theorem heldCopy_any (B b : Nat) (h : HeldB) (w : World) (hi : HeldIs w B b h) (hB : B ≤ w.heap.size) :
    Calls Tryz.prog 24 #[.pointer (some ⟨b, 0, none⟩)] w (HCopyPost B h w) := by
  obtain ⟨h0, ov, mb, f, hA⟩ := hi
  obtain ⟨es, c, he⟩ := hA.map.isMap
  obtain ⟨c0, c1, c2, _⟩ := held_ready hA.blk
  obtain ⟨ao, cap, rfl⟩ := IOwn.shape hA.order
  have a0 : w.drew.cell? ⟨b, 0, none⟩ = some (.int .i64 h.most) := c0
  have a1 : w.drew.cell? ⟨b, 1, none⟩ = some (.slice ao h.sums.length cap) := c1
  have a2 : w.drew.cell? ⟨b, 2, none⟩ = some (.map (some mb)) := c2
  have hl : h.sums.length ≤ 100000 := by have := h0.len; have := h0.few; rw [sums_len]; omega
  have HC1 := Lib.hid (cloneInts_any (.slice ao h.sums.length cap) h.sums w.drew hl (hA.order.ext (below_drewN _ _ 1)).row)
  have HA := Lib.hid hA
  have H0 := Lib.hid h0
  have HE := Lib.hid he
  have hbl : b < w.heap.size := (Array.getElem?_eq_some_iff.1 hA.blk).1
  have hml : mb < w.heap.size := hA.map.lt
  clear hA hl h0 he c0 c1 c2
  go_enter Tryz.func24, Tryz.ntmps24
  go_wp2_with fail
  go_region_held3 (fun W : World => W.cell? ⟨b, 0, none⟩ = some (.int .i64 h.most) ∧ W.cell? ⟨b, 1, none⟩ = some (.slice ao h.sums.length cap) ∧ W.cell? ⟨b, 2, none⟩ = some (.map (some mb))) (first | exact ⟨Lib.cell?_alloc_some _ e0, Lib.cell?_alloc_some _ e1, Lib.cell?_alloc_some _ e2⟩ | exact ⟨e0, e1, e2⟩ | exact ⟨d0, d1, d2⟩ | exact ⟨a0, a1, a2⟩)
    (first
      | (go_at_call 38; refine HC1.out.mono ?_; rintro e w1 ⟨⟨ov, rfl, HO⟩, hb1⟩; obtain ⟨oo, oc, rfl⟩ := IOwn.shape HO.out; have d0 := (hb1.cell (p := ⟨b, 0, none⟩) hbl).trans a0; have d1 := (hb1.cell (p := ⟨b, 1, none⟩) hbl).trans a1; have d2 := (hb1.cell (p := ⟨b, 2, none⟩) hbl).trans a2; have hm1 : w1.heap[mb]? = some (.map es c) := (hb1.block mb hml).trans HE.out)
      | (go_at_call 46; refine (mapsClone_any mb es c w1 hm1).mono ?_; rintro e w2 ⟨rfl, hw2⟩; have hb2 : Below w1.heap.size w1 w2 := (by rw [hw2]; exact (Below.refl _ _).alloc (Nat.le_refl _) _); have hn2 : w2.heap[w1.heap.size]? = some (.map es c) := (by rw [hw2]; exact heap_alloc_new _ _); have e0 := (hb2.cell (p := ⟨b, 0, none⟩) (Nat.lt_of_lt_of_le hbl hb1.size)).trans d0; have e1 := (hb2.cell (p := ⟨b, 1, none⟩) (Nat.lt_of_lt_of_le hbl hb1.size)).trans d1; have e2 := (hb2.cell (p := ⟨b, 2, none⟩) (Nat.lt_of_lt_of_le hbl hb1.size)).trans d2; clear hw2))
  have hbw1 : Below w.heap.size w w1 := (below_drewN _ _ 1).trans hb1
  have hbw2 : Below w.heap.size w w2 := hbw1.trans (hb2.mono hbw1.size)
  have hal : Below w2.heap.size w2 (w2.alloc (.cells #[.int .i64 h.most, .slice oo h.sums.length oc, .map (some w1.heap.size)] 75)) := (Below.refl _ _).alloc (Nat.le_refl _) _
  have hbw3 := hbw2.trans (hal.mono hbw2.size)
  have HF : Hid (HeldIs (w2.alloc (.cells #[.int .i64 h.most, .slice oo h.sums.length oc, .map (some w1.heap.size)] 75)) B w2.heap.size h) := by
    refine ⟨H0.out, .slice oo h.sums.length oc, w1.heap.size, f, ?_⟩
    refine { hb := Nat.le_trans hB hbw2.size, hm := Nat.le_trans hB hbw1.size, blk := heap_alloc_new _ _, order := ?_, map := ?_, vals := fun n => (HA.out.vals n).keeps (K := fun _ => False) (Keeps.of hbw3 (Nat.le_refl _)) (fun _ h => h) }
    · exact IOwn.low (IOwn.ext (IOwn.ext HO.out hb2) hal) hB
    · exact HA.out.map.copy HE.out ((hal.block _ (by have := (Array.getElem?_eq_some_iff.1 hn2).1; exact this)).trans hn2)
  have hle : w.heap.size ≤ w2.heap.size := hbw2.size
  clear HO hb1 hb2 hn2 hm1 d0 d1 d2 e0 e1 e2 HC1 a0 a1 a2
  go_wp2_with fail
  go_ret
  exact ⟨⟨_, rfl, HF, hle⟩, hbw3⟩
theorem iown_eq_row {w : World} {v u : Value} {zs : List Int} (h1 : Row encInt 1 w v zs) (h2 : Row encInt 1 w u zs) (hz : zs.length ≤ 100000) :
    Calls Tryz.prog 47 #[v, u] w fun e w' => e = .returned (.bool true) ∧ Below w.heap.size w w' := by
  rcases h1.one with ⟨rfl, rfl⟩ | ⟨b, off, cap, rfl, a1, a2, a3, a4⟩
  · obtain ⟨ao, cap, rfl, _⟩ := h2.parts
    refine (Tryz.slices_Equal_int_empty none ao 0 0 cap w (by omega)).mono ?_
    rintro e w' ⟨rfl, rfl⟩
    exact ⟨by simp, Below.refl _ _⟩
  · rcases h2.one with ⟨rfl, e0⟩ | ⟨b', off', cap', rfl, d1, d2, d3, d4⟩
    · subst e0
      refine (Tryz.slices_Equal_int_empty _ none _ 0 0 w (by omega)).mono ?_
      rintro e w' ⟨rfl, rfl⟩
      exact ⟨by simp, Below.refl _ _⟩
    · refine (Tryz.slices_Equal_int b off zs.length cap b' off' zs.length cap' zs zs w (Nat.le_refl _) (Nat.le_refl _) (by omega) (by omega) (getD_cells a4) (getD_cells d4)).mono ?_
      rintro e w' ⟨rfl, q, rfl⟩
      exact ⟨by simp, below_drewN _ _ _⟩
set_option maxRecDepth 100000 in
theorem heldSame_any (B b B' b' : Nat) (h : HeldB) (h' : HeldB) (w : World) (hi : HeldIs w B b h) (hi' : HeldIs w B' b' h') (hs : h.sums = h'.sums) :
    Calls Tryz.prog 26 #[.pointer (some ⟨b, 0, none⟩), .pointer (some ⟨b', 0, none⟩)] w fun e w' => e = .returned (.bool true) ∧ Below w.heap.size w w' := by
  obtain ⟨h0, ov, mb, f, hA⟩ := hi
  obtain ⟨h0', ov', mb', f', hA'⟩ := hi'
  have hl : h'.sums.length ≤ 100000 := by have := h0'.len; have := h0'.few; rw [sums_len]; omega
  have hr := hA.order.row
  rw [hs] at hr
  have C := Lib.hid (iown_eq_row (w := w.drew) (hr.ext (below_drewN _ _ 1)) (hA'.order.row.ext (below_drewN _ _ 1)) hl)
  have c1 : w.drew.cell? ⟨b, 1, none⟩ = some ov := (held_ready hA.blk).2.1
  have c1' : w.drew.cell? ⟨b', 1, none⟩ = some ov' := (held_ready hA'.blk).2.1
  have hl1 : b < w.drew.heap.size := (Array.getElem?_eq_some_iff.1 hA.blk).1
  have hl2 : b' < w.drew.heap.size := (Array.getElem?_eq_some_iff.1 hA'.blk).1
  obtain ⟨ao, cap, rfl⟩ := IOwn.shape hA.order
  obtain ⟨ao', cap', rfl⟩ := IOwn.shape hA'.order
  clear hA hA' hl hr hs h0 h0'
  go_enter Tryz.func26, Tryz.ntmps26
  go_wp2_with fail
  go_region_held3 (fun W : World => W.cell? ⟨b, 1, none⟩ = some (.slice ao h.sums.length cap) ∧ W.cell? ⟨b', 1, none⟩ = some (.slice ao' h'.sums.length cap')) (first | exact ⟨k1, k2⟩ | exact ⟨c1, c1'⟩)
    ((go_at_call 47; refine (C.out).mono ?_; rintro e w1 ⟨rfl, hb1⟩; have k1 := (hb1.cell (p := ⟨b, 1, none⟩) hl1).trans c1; have k2 := (hb1.cell (p := ⟨b', 1, none⟩) hl2).trans c1'))
  go_wp2_with fail
  go_ret
  exact ⟨rfl, (below_drewN _ _ 1).trans hb1⟩
set_option maxRecDepth 100000 in
theorem heldSame_nil (p : Addr) (w : World) : Calls Tryz.prog 26 #[.pointer (some p), .pointer none] w fun e w' => e = .returned (.bool false) ∧ w' = w := by
  go_enter Tryz.func26, Tryz.ntmps26
  go_wp2_with fail
  go_ret
  exact ⟨rfl, rfl⟩
set_option maxRecDepth 100000 in
theorem heldSame_nils (w : World) : Calls Tryz.prog 26 #[.pointer none, .pointer none] w fun e w' => e = .returned (.bool true) ∧ w' = w := by
  go_enter Tryz.func26, Tryz.ntmps26
  go_wp2_with fail
  go_ret
  exact ⟨rfl, rfl⟩
end Go.Proofs.YtjebljhhbnfpfaaGreatDoor
