/- chandlerylaw2.MirrorTells: the walk. -/
import Derived.Test.YtpafddeakanopaaGreatDoorMirrorLaw
import Derived.Test.YtpafddeakanopaaGreatDoorRefWays
namespace Go.Proofs.YtpafddeakanopaaGreatDoor
open Go Go.RowKit

set_option maxHeartbeats 1000000 in
set_option maxRecDepth 100000 in
theorem mirrorTells_walk {E : Nat → Addr} {w : World} (hE : Env E w) (hL : LEnv E w) (v : Value) (l : List RuleB) (hv : RulesRow w v l) (s : ByteArray) :
    Calls Tryz.prog 3 #[v, .string s] w fun e w' => e = .returned (.bool true) ∧ Below w.heap.size w w' := by
  have HE := Lib.hid hE
  have HL := Lib.hid hL
  have HV := Lib.hid hv
  have C := Lib.hid (mirrored_any w hL)
  clear hE hL
  obtain ⟨ao, cap, rfl, h1, h2, H3⟩ := hv
  clear H3
  go_enter Tryz.func3, Tryz.ntmps3
  go_wp2_with fail
  refine C.out.mono ?_
  clear C
  rintro e w1 ⟨rfl, b1⟩
  have C := Lib.hid (longRules_any _ l w1 (HV.out.ext b1))
  go_wp2_with fail
  refine C.out.mono ?_
  clear C
  rintro e w2 ⟨⟨n, rfl, hn, HN⟩, rfl⟩
  rcases hn with rfl | rfl
  · obtain ⟨hl, hs⟩ := HN.out rfl
    have HS := Lib.hid hs
    clear hs HN
    by_cases hss : s.size ≤ 120
    · have C := Lib.hid (ownRules_any _ l w1 (by omega) HS.out (HV.out.ext b1))
      go_wp2_with fail
      refine C.out.mono ?_
      clear C
      rintro e w3 ⟨⟨ov, rfl, HO⟩, hb3⟩
      have b3 := b1.trans (hb3.mono b1.size)
      have C := Lib.hid (mirrorCheck_any ov l w3 (by omega) HS.out HO.out.row (HL.out.ext b3))
      clear HO
      go_wp2_with fail
      refine C.out.mono ?_
      clear C
      rintro e w4 ⟨⟨ev, rfl, HER⟩, hb4⟩
      have b4 := b3.trans (hb4.mono b3.size)
      have C := Lib.hid (refRulesFault_any _ l w4 (by omega) HS.out (HV.out.ext b4))
      go_wp2_with fail
      refine C.out.mono ?_
      clear C
      rintro e w5 ⟨rfl, hb5⟩
      have b5 := b4.trans (hb5.mono b4.size)
      have C := Lib.hid (faulted_any (HE.out.ext b5) (HER.out.ext hb5))
      go_wp2_with fail
      refine C.out.mono ?_
      clear C HER
      rintro e w6 ⟨rfl, hb6⟩
      have b6 := b5.trans (hb6.mono b5.size)
      have C := Lib.hid (ownRules_any _ l w6 (by omega) HS.out (HV.out.ext b6))
      go_wp2_with fail
      refine C.out.mono ?_
      clear C
      rintro e w7 ⟨⟨ov2, rfl, HO⟩, hb7⟩
      have b7 := b6.trans (hb7.mono b6.size)
      have C := Lib.hid (ways_any ov2 l s w7 (by omega) HS.out hss HO.out.row (HL.out.ext b7))
      clear HO
      go_wp2_with fail
      refine C.out.mono ?_
      clear C
      rintro e w8 ⟨⟨xv, ev2, xs, rfl, HER2, HX, HXS, hxl⟩, hb8⟩
      have b8 := b7.trans (hb8.mono b7.size)
      have C := Lib.hid (refWaysOf_any _ l s w8 (by omega) HS.out hss (HV.out.ext b8))
      go_wp2_with fail
      refine C.out.mono ?_
      clear C
      rintro e w9 ⟨yv, ys, rfl, HY, HYS, hyl, hb9⟩
      have b9 := b8.trans (hb9.mono b8.size)
      have HEQ : Hid (xs.map bl = ys.map bl) := by show _ = _; rw [HXS.out, HYS.out]
      have HX9 := Lib.hid (HX.out.ext hb9)
      have HE9 := Lib.hid (HER2.out.ext hb9)
      obtain ⟨er, her⟩ : ∃ er, waysEr (l.map ruleOf) (bl s) = er := ⟨_, rfl⟩
      rw [her] at HE9 ⊢
      obtain ⟨w10, hw10⟩ : ∃ w10, w9.alloc (.cells #[.int .i64 er.code, .int .i64 (er.at?.getD (-1))] 31) = w10 := ⟨_, rfl⟩
      have hal : Below w9.heap.size w9 w10 := by rw [← hw10]; exact (Below.refl _ _).alloc (Nat.le_refl _) _
      have hA : w10.heap[w9.heap.size]? = some (.cells #[.int .i64 er.code, .int .i64 (er.at?.getD (-1))] 31 (0, 0)) := by rw [← hw10]; exact heap_alloc_new _ _
      have b10 := b9.trans (hal.mono b9.size)
      have C := faulted_any (HE.out.ext b10) (HE9.out.ext hal)
      unfold erA at C ⊢
      have HC := Lib.hid C
      have c0 : w10.cell? ⟨w9.heap.size, 0, none⟩ = some (.int .i64 er.code) := by rw [Lib.cell_of_heap hA]; rfl
      have c1 : w10.cell? ⟨w9.heap.size, 1, none⟩ = some (.int .i64 (er.at?.getD (-1))) := by rw [Lib.cell_of_heap hA]; rfl
      have HY10 := Lib.hid (HY.out.ext hal)
      have HX10 := Lib.hid (HX9.out.ext hal)
      clear C her hal hA HX HY HX9 HE9 HER2 HXS HYS
      go_wp2_with fail
      refine HC.out.mono ?_
      clear HC
      rintro e w11 ⟨rfl, hb11⟩
      have C := Lib.hid (sameTexts_same (HX10.out.ext hb11) (HY10.out.ext hb11) HEQ.out (by omega))
      have b11 := b10.trans (hb11.mono b10.size)
      go_wp2_with fail
      refine C.out.mono ?_
      clear C
      rintro e w12 ⟨rfl, hb12⟩
      go_wp2_with fail
      go_ret
      exact ⟨rfl, b11.trans (hb12.mono b11.size)⟩
    · go_wp2_with fail
      go_ret
      exact ⟨rfl, b1⟩
  · go_wp2_with fail
    go_ret
    exact ⟨rfl, b1⟩
end Go.Proofs.YtpafddeakanopaaGreatDoor
