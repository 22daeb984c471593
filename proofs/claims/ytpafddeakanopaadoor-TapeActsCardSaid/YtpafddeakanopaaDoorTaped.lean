/- taped: the closed fact of the tape's laws. -/
import Derived.Test.YtpafddeakanopaaDoorTapeOps
import Derived.Test.YtpafddeakanopaaDoorSameTexts
namespace Go.Proofs.YtpafddeakanopaaDoor
open Go Go.RowKit

/-- What the laws of the tape read of the program's variables. -/
def TapeEnv (w : World) : Prop := TEnv w ∧ ∃ te pe, w.cell? ⟨1, 0, none⟩ = some (.iface te pe)
theorem TapeEnv.ext {w w' : World} (h : TapeEnv w) (hb : Below w.heap.size w w') : TapeEnv w' := by
  obtain ⟨h1, te, pe, h2⟩ := h
  exact ⟨h1.ext hb, te, pe, (hb.cell (show (⟨1, 0, none⟩ : Addr).block < w.heap.size from Lib.lt_of_cell h2)).trans h2⟩

theorem rec_ab : recL [97, 32, 98] = [51, 58, 97, 32, 98, 10, 46] := by
  unfold recL
  rw [show ([97, 32, 98] : List UInt8).length = 3 from rfl, decDigits_small (by decide)]
  decide

set_option maxHeartbeats 1000000 in
set_option maxRecDepth 100000 in
theorem taped_any (w : World) (hE : TapeEnv w) : Calls Tryd.prog 16 #[] w fun e w' => e = .returned (.bool true) ∧ Below w.heap.size w w' := by
  have HE := Lib.hid hE
  obtain ⟨_, te, pe, hv⟩ := hE
  have hg : 1 < w.heap.size := Lib.lt_of_cell hv
  have hbl0 : bl ⟨#[]⟩ = [] := rfl
  have hbl1 : bl ⟨#[97, 32, 98]⟩ = [97, 32, 98] := rfl
  go_enter Tryd.func16, Tryd.ntmps16
  go_wp2_with fail
  refine (newDisk_any ⟨#[]⟩ w (by decide)).mono ?_
  rintro e w1 ⟨b, rfl, HD1, hb1⟩
  rw [hbl0] at HD1
  have C1 := append_any w.heap.size b [] false (-1) ⟨#[97, 32, 98]⟩ (.iface te pe) w1 HD1 (by decide) (by rw [hbl1, rec_ab]; decide) (by decide) hb1.size (HE.out.ext hb1).1.2.1 ((hb1.cell (p := ⟨1, 0, none⟩) hg).trans hv) hg
  rw [hbl1, rec_ab] at C1
  have hw : WroteL [] false (-1) [51, 58, 97, 32, 98, 10, 46] = ([51, 58, 97, 32, 98, 10, 46], false, -1, true) := by unfold WroteL; simp
  rw [hw] at C1
  have C1 := Lib.hid C1
  clear hw hbl0 hbl1
  go_wp2_with fail
  refine C1.out.mono ?_
  clear C1
  unfold AppPost
  rintro e w2 ⟨rfl, HD2, HO2⟩
  dsimp only [if_true] at HD2 ⊢
  have hb2 := hb1.trans HO2.below
  have C2 := Lib.hid (recover_any w.heap.size b [51, 58, 97, 32, 98, 10, 46] false (-1) w2 HD2 (by decide) (Nat.le_trans hb1.size HO2.below.size) (fun W hW => (HE.out.ext (hb2.trans hW)).1))
  have ht : tapeL [51, 58, 97, 32, 98, 10, 46] = [[97, 32, 98]] := by
    have := tapeL_recs [[97, 32, 98]] [] (by decide) oneL_nil
    rw [recsL_cons, rec_ab] at this
    simpa [recsL] using this
  rw [ht] at C2
  have hr : recsL [[97, 32, 98]] = [51, 58, 97, 32, 98, 10, 46] := by rw [recsL_cons, rec_ab]; rfl
  rw [hr] at C2
  clear ht hr HD2
  go_wp2_with fail
  refine C2.out.mono ?_
  clear C2
  rintro e w3 ⟨v, zs, rfl, HZ, HM, hzl, HD3, HO3⟩
  have hb3 := hb2.trans HO3.below
  have hw3 : w.heap.size ≤ w3.heap.size := hb3.size
  have hzn : zs.length = 1 := by have := congrArg List.length HM.out; simpa using this
  have hrow := Row.block1 Value.string w3 [⟨#[97, 32, 98]⟩] 9 (by decide) w3.heap.size 1 rfl rfl
  have hal : Below w3.heap.size w3 (w3.alloc (.cells ([(⟨#[97, 32, 98]⟩ : ByteArray)].map Value.string).toArray 9)) := (Below.refl _ _).alloc (Nat.le_refl _) _
  have C3 := Lib.hid (sameTexts_same (Row.of_owns (fun _ => rfl) (owns_below HZ.out hal)) hrow (by rw [HM.out]; rfl) (by omega))
  have HD4 := HD3.below hal
  go_wp2_with fail
  refine C3.out.mono ?_
  clear C3
  rintro e w4 ⟨rfl, hb4⟩
  have hb5 := hb3.trans ((hal.trans (hb4.mono hal.size)).mono hw3)
  have C4 := Lib.hid (diskBytes_any _ _ _ _ _ w4 (HD4.below hb4))
  clear HD1 HD3 HD4
  go_wp2_with fail
  refine C4.out.mono ?_
  clear C4
  rintro e w5 ⟨rfl, rfl⟩
  go_wp2_with fail
  go_ret
  exact ⟨rfl, hb5⟩
end Go.Proofs.YtpafddeakanopaaDoor
