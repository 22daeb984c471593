/- chandlerylaw1.rooted: a closed fact. -/
import Derived.Test.YtamimigpnhblmaaGreatDoorJTreePut
import Derived.Test.YtamimigpnhblmaaGreatDoorJTold
import Derived.Test.YtamimigpnhblmaaGreatDoorJTreeFew
namespace Go.Proofs.YtamimigpnhblmaaGreatDoor
open Go Go.RowKit

theorem own_one (W : World) (base : Nat) (f : FileB) (hb : base ≤ W.heap.size) : FOwn (W.alloc (.cells #[.string f.path, .bool f.run, .string f.text] 24)) base (.slice (some ⟨W.heap.size, 0, none⟩) 1 1) [f] :=
  ⟨rfl, .inr ⟨W.heap.size, 1, _, rfl, hb, heap_alloc_new _ _, Nat.le_refl _, by rw [maxLen_eq]; decide, rfl, rfl⟩⟩
abbrev rootA : FileB := ⟨⟨#[97, 47, 97]⟩, false, ⟨#[50]⟩⟩
abbrev rootB : FileB := ⟨⟨#[97, 47, 98]⟩, false, ⟨#[49]⟩⟩
abbrev rootC : FileB := ⟨⟨#[97]⟩, false, ⟨#[]⟩⟩
theorem root_put : putT [rootB] rootA = (⟨0, none⟩, [rootA, rootB]) := by
  have h1 : (treeEr [rootB]).code = 0 := by decide +kernel
  have h2 : (treeEr [rootA, rootB]).code = 0 := by decide +kernel
  have h3 : putL [rootB] rootA = [rootA, rootB] := by decide +kernel
  unfold putT
  rw [if_neg (by rw [h1]; decide), h3, if_neg (by rw [h2]; decide)]
theorem root_clash : putT [rootA, rootB] rootC = (⟨11, none⟩, []) := by
  have h1 : (treeEr [rootA, rootB]).code = 0 := by decide +kernel
  have h2 : (treeEr (putL [rootA, rootB] rootC)).code = 11 := by decide +kernel
  unfold putT
  rw [if_neg (by rw [h1]; decide), if_pos (by rw [h2]; decide), h2]

set_option maxHeartbeats 1000000 in
set_option maxRecDepth 100000 in
theorem rooted_any {E : Nat → Addr} (w : World) (hE : FEnv E w) : Calls Tryz.prog 6 #[] w fun e w' => e = .returned (.bool true) ∧ Below w.heap.size w w' := by
  have HE := Lib.hid hE
  have P1 := Lib.hid root_put
  have P2 := Lib.hid root_clash
  have hb0 : Below w.heap.size w (w.alloc (.cells #[.string rootB.path, .bool rootB.run, .string rootB.text] 24)) := (Below.refl _ w).alloc (Nat.le_refl _) _
  have C := Lib.hid (treePut_any (E := E) _ [rootB] rootA _ (own_one w w.heap.size rootB (Nat.le_refl _)).arg (by decide) (fun g hg => by rw [List.mem_singleton.1 hg]; exact ⟨by decide, by decide⟩) ⟨by decide, by decide⟩ (hE.ext hb0))
  have HB0 := Lib.hid hb0
  clear hE hb0
  go_enter Tryz.func6, Tryz.ntmps6
  go_wp2_with fail
  refine C.out.mono ?_
  clear C
  rintro e w1 ⟨⟨v, ev, rfl, HI, HO⟩, hb1⟩
  rw [P1.out] at HI HO
  have hb := HB0.out.trans (hb1.mono HB0.out.size)
  obtain rfl := IsErr.nil_inv HI.out
  have C := Lib.hid (treePut_any (E := E) _ [rootA, rootB] rootC w1 HO.out.arg (by decide) (fun g hg => by
    simp at hg
    rcases hg with rfl | rfl <;> exact ⟨by decide, by decide⟩) ⟨by decide, by decide⟩ (HE.out.ext hb))
  have HO1 : Hid (FRow w1 v [rootA, rootB]) := HO.out.row
  clear HI hb1 HB0 HO
  go_wp2_with fail
  refine C.out.mono ?_
  clear C
  rintro e w2 ⟨⟨u, ev2, rfl, HI2, _⟩, hb2⟩
  rw [P2.out] at HI2
  have hbb := hb.trans (hb2.mono hb.size)
  obtain ⟨_, rfl⟩ := IsErr.base_inv (k := 10) HI2.out
  obtain ⟨ao, cap, rfl, h1, h2, H3⟩ := HO1.out.ext hb2
  obtain ⟨b, off, rfl, hbl, hc⟩ := H3 0 (by decide)
  obtain ⟨q0, _, _⟩ := hc 0 (by decide)
  have q0 : w2.cell? ⟨b, off, none⟩ = some (.string ⟨#[97, 47, 97]⟩) := by simpa using q0
  have C := Lib.hid (errCoded1 (c := 11) (HE.out.ext hbb).1 (by decide))
  have hcap : 2 ≤ cap := h1
  simp only [List.length_cons, List.length_nil, Nat.reduceAdd]
  clear H3 hc HI2 HO1
  go_wp2_with fail
  refine C.out.mono ?_
  rintro e w3 ⟨rfl, hb3⟩
  go_wp2_with fail
  go_ret
  exact ⟨rfl, hbb.trans (hb3.mono hbb.size)⟩
end Go.Proofs.YtamimigpnhblmaaGreatDoor
