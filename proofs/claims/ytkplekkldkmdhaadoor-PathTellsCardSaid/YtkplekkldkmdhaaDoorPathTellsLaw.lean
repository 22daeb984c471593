/- chandlerylaw1.PathTells: the walk. -/
import Derived.Test.YtkplekkldkmdhaaDoorRefMore
import Derived.Test.YtkplekkldkmdhaaDoorStripLaw
namespace Go.Proofs.YtkplekkldkmdhaaDoor
open Go Go.RowKit

theorem stripE_le (s : List UInt8) (n : Int) : stripE s n ≤ 13 := by
  unfold stripE
  split
  · split
    · decide
    · split <;> decide
  · exact partsE_le _
/-- path.Parts, by the rows that it hands back. -/
theorem pathParts_row {E : Nat → Addr} (s : ByteArray) (w : World) (hs : s.size ≤ 1000000) (hE : PEnv E w) :
    Calls Tryd.prog 32 #[.string s] w fun e w' =>
      (∃ (v : Value) (zs : List ByteArray), e = .returned (.tuple #[v, errV E (partsE (bl s))]) ∧ Hid (Row encStr 1 w' v zs) ∧ Hid (zs.map bl = if partsE (bl s) = 0 then cutL 47 (bl s) else []) ∧ zs.length ≤ 6) ∧ Below w.heap.size w w' := by
  refine (pathParts_any s w hs hE).mono ?_
  intro e w1 h
  unfold PartsPost at h
  obtain ⟨⟨zs, b, n, rfl, HZ, hn, h6, HS, HA, HR⟩ | ⟨k, rfl, HR⟩, hb⟩ := h
  · refine ⟨⟨_, zs, by rw [HR.out]; rfl, ?_, by show _ = _; rw [HR.out, if_pos rfl]; exact HZ.out, by omega⟩, hb⟩
    subst hn
    refine .inr ⟨b, 0, zs.length, rfl, Nat.le_refl _, by rw [maxLen_eq]; omega, HA.out.1, fun i hi j hj => ?_⟩
    obtain rfl : j = 0 := by omega
    have := HA.out.2 i hi
    simpa using this
  · exact ⟨⟨_, [], by rw [HR.out]; rfl, Row.nil _ _ _, by show _ = _; rw [HR.out]; rfl, by simp⟩, hb⟩

set_option maxHeartbeats 2000000 in
set_option maxRecDepth 100000 in
theorem pathTells_walk {E : Nat → Addr} {w : World} (hE : PTEnv E w) (s d : ByteArray) (n : Int) (hn : (Lit.int .i64 n).wf = true) :
    Calls Tryd.prog 8 #[.string s, .string d, .int .i64 n] w fun e w' => e = .returned (.bool true) ∧ Below w.heap.size w w' := by
  have C := Lib.hid (pathed_any w hE)
  have HE := Lib.hid hE
  clear hE
  go_enter Tryd.func8, Tryd.ntmps8
  go_wp2_with fail
  refine C.out.mono ?_
  clear C
  rintro e w1 ⟨rfl, b1⟩
  by_cases ls : s.size ≤ 100
  · by_cases ld : d.size ≤ 100
    · have C := Lib.hid (pathParts_row s w1 (by omega) (HE.out.ext b1).clean.path)
      go_wp2_with fail
      refine C.out.mono ?_
      clear C
      rintro e w2 ⟨⟨v, zs, rfl, HR, HZ, h6⟩, hb⟩
      have b2 := b1.trans (hb.mono b1.size)
      clear hb
      have C := Lib.hid (refPartsOf_any s w2 (by omega))
      go_wp2_with fail
      refine C.out.mono ?_
      clear C
      rintro e w3 ⟨u, ys, rfl, HR2, HZ2, hl, hb⟩
      have b3 := b2.trans (hb.mono b2.size)
      have HR3 := Lib.hid (HR.out.ext hb)
      clear hb HR
      have C := Lib.hid (errCoded1 (c := partsE (bl s)) (HE.out.ext b3).env (partsE_le _))
      go_wp2_with fail
      refine C.out.mono ?_
      clear C
      rintro e w4 ⟨rfl, hb⟩
      have b4 := b3.trans (hb.mono b3.size)
      have C := Lib.hid (sameTexts_same (HR3.out.ext hb) (HR2.out.ext hb) (by rw [HZ.out, HZ2.out]) (by omega))
      clear hb HR3 HR2 HZ HZ2
      go_wp2_with fail
      refine C.out.mono ?_
      clear C
      rintro e w5 ⟨rfl, hb⟩
      have b5 := b4.trans (hb.mono b4.size)
      clear hb
      have C := Lib.hid (pathCheck_any s w5 (by omega) (HE.out.ext b5).clean.path)
      go_wp2_with fail
      refine C.out.mono ?_
      clear C
      rintro e w6 ⟨rfl, hb⟩
      have b6 := b5.trans (hb.mono b5.size)
      clear hb
      have C := Lib.hid (errCoded1 (c := partsE (bl s)) (HE.out.ext b6).env (partsE_le _))
      go_wp2_with fail
      refine C.out.mono ?_
      clear C
      rintro e w7 ⟨rfl, hb⟩
      have b7 := b6.trans (hb.mono b6.size)
      clear hb
      have C := Lib.hid (clean_any s w7 (by omega) (HE.out.ext b7).clean)
      go_wp2_with fail
      refine C.out.mono ?_
      clear C
      rintro e w8 ⟨⟨t, rfl, HT⟩, hb⟩
      have b8 := b7.trans (hb.mono b7.size)
      clear hb
      have C := Lib.hid (refCleanOf_any s w8 (by omega))
      go_wp2_with fail
      refine C.out.mono ?_
      clear C
      rintro e w9 ⟨⟨t2, rfl, HT2⟩, hb⟩
      have b9 := b8.trans (hb.mono b8.size)
      clear hb
      obtain rfl : t = t2 := blInj (HT.out.trans HT2.out.symm)
      clear HT HT2
      have C := Lib.hid (errCoded1 (c := cleanE (bl s)) (HE.out.ext b9).env (cleanE_le _))
      go_wp2_with fail
      refine C.out.mono ?_
      clear C
      rintro e w10 ⟨rfl, hb⟩
      have b10 := b9.trans (hb.mono b9.size)
      clear hb
      have C := Lib.hid (pathJoin_any d s w10 (by omega) (by omega) (HE.out.ext b10).clean)
      go_wp2_with fail
      refine C.out.mono ?_
      clear C
      rintro e w11 ⟨⟨t3, rfl, HT⟩, hb⟩
      have b11 := b10.trans (hb.mono b10.size)
      clear hb
      have C := Lib.hid (refJoinOf_any d s w11 (by omega) (by omega))
      go_wp2_with fail
      refine C.out.mono ?_
      clear C
      rintro e w12 ⟨⟨t4, rfl, HT2⟩, hb⟩
      have b12 := b11.trans (hb.mono b11.size)
      clear hb
      obtain rfl : t3 = t4 := blInj (HT.out.trans HT2.out.symm)
      clear HT HT2
      have C := Lib.hid (errCoded1 (c := cleanE (joinS (bl d) (bl s))) (HE.out.ext b12).env (cleanE_le _))
      go_wp2_with fail
      refine C.out.mono ?_
      clear C
      rintro e w13 ⟨rfl, hb⟩
      have b13 := b12.trans (hb.mono b12.size)
      clear hb
      have C := Lib.hid (pathStrip_any s n w13 (by omega) hn (HE.out.ext b13).strip)
      go_wp2_with fail
      refine C.out.mono ?_
      clear C
      rintro e w14 ⟨⟨t5, rfl, HT⟩, hb⟩
      have b14 := b13.trans (hb.mono b13.size)
      clear hb
      have C := Lib.hid (refStripOf_any s n w14 (by omega) hn)
      go_wp2_with fail
      refine C.out.mono ?_
      clear C
      rintro e w15 ⟨⟨t6, rfl, HT2⟩, hb⟩
      have b15 := b14.trans (hb.mono b14.size)
      clear hb
      obtain rfl : t5 = t6 := blInj (HT.out.trans HT2.out.symm)
      clear HT HT2
      have C := Lib.hid (refIsIn_any s d w15 (by omega) (by omega))
      go_wp2_with fail
      refine C.out.mono ?_
      clear C
      rintro e w16 ⟨rfl, hb⟩
      have b16 := b15.trans (hb.mono b15.size)
      clear hb
      have C := Lib.hid (errCoded1 (c := stripE (bl s) n) (HE.out.ext b16).env (stripE_le _ _))
      go_wp2_with fail
      refine C.out.mono ?_
      clear C
      rintro e w17 ⟨rfl, hb⟩
      have b17 := b16.trans (hb.mono b16.size)
      clear hb
      have C := Lib.hid (pathIn_any s d w17 (by omega) (by omega) (HE.out.ext b17).clean.path)
      go_wp2_with fail
      refine C.out.mono ?_
      clear C
      rintro e w18 ⟨rfl, hb⟩
      have b18 := b17.trans (hb.mono b17.size)
      clear hb
      go_wp2_with fail
      go_ret
      exact ⟨by simp, b18⟩
    · go_wp2_with fail
      go_ret
      exact ⟨rfl, b1⟩
  · go_wp2_with fail
    go_ret
    exact ⟨rfl, b1⟩
end Go.Proofs.YtkplekkldkmdhaaDoor
