/-
  chandlery/chandlerylaw2.MirrorWays returns true, whatever it is given: the ways a mirror's rules make of a text, by the rules' own words.
  Conditions: none beyond the row's own (the listed variables read as the program's text lays them, to which the card ties them).
-/
import Derived.Test.YtkplekkldkmdhaaDoorMirrorWalk
import Derived.Test.YtkplekkldkmdhaaDoorLaidLink
import Derived.Test.YtkplekkldkmdhaaDoorOpenRules
import Derived.Test.YtkplekkldkmdhaaDoorShaped
import Derived.Lay
import Derived.Test.YtkplekkldkmdhaaDoorCards
import Derived.SevenTiedAt
namespace Go.Proofs.YtkplekkldkmdhaaDoor
open Go Go.RowKit Go.ChangeShapes Go.WideShapes Go.ChangeAt Go.WideMaps Go.WideElems
open Go.ChangeMaps (setBlock shut_map_nil open_string shut_string keptBut_setBlock frozen?_setBlock heap_setBlock_same)

theorem mirrorWays_door (os : Os) (args : Array Value) : laidMetH Tryd.prog Rows.mirrorWaysRow.laid ((World.laidAll Tryd.prog os Rows.mirrorWaysRow.laid).forCall (fun _ _ => 0) ⟨#[], args, []⟩).memory := by
  unfold laidMetH
  rw [show (Rows.mirrorWaysRow.laid.filter fun x => x.2.handleName?.isSome) = [] by kernel_rfl]
  exact laidMet_laidAll _ (by kernel_rfl) (by kernel_rfl)
theorem mirrorWays_params : ([30, 9, 3].all fun t => Tryd.prog.readableRec t && decide (t < Tryd.prog.types.size)) = true := by kernel_rfl

set_option maxRecDepth 100000 in
theorem mirrorWays_lifted (os : Os) (started : os.Started) (H : Type) (enc : TypeId × Value → H) :
    ReturnsInHanded {} Tryd.checked os 4 .any (fun w args => (Rows.mirrorWaysSpec.pre enc Tryd.prog Tryd.f4 [] false w args ∧ laidMetH Tryd.prog Rows.mirrorWaysRow.laid w) ∧ sizedMet enc Tryd.prog Tryd.f4 (OpenSpec.ofChange Rows.mirrorWaysSpec) false w args)
      (Rows.mirrorWaysSpec.post enc Tryd.prog Tryd.f4 false true false false) := by
  refine handed_shaped (C := Tryd.checked) (X := fun w _ => laidMetH Tryd.prog Rows.mirrorWaysRow.laid w) (fun _ _ _ hh h => h.of_heap hh) Tryd.own started (by kernel_rfl) Tryd.func4
    (ChangeSpec.witness_shaped (enc := enc) (C := Tryd.checked) (os := os) (X := fun w _ => laidMetH Tryd.prog Rows.mirrorWaysRow.laid w) false (World.laidAll Tryd.prog os Rows.mirrorWaysRow.laid) #[.slice none 0 0, .string ⟨#[]⟩, .int .i64 0] 8 (World.laidAll_os _ _ _) (World.shaped_of_ZipB (by kernel_rfl) (by kernel_rfl)) (by kernel_rfl) (by kernel_rfl) (by kernel_rfl) (mirrorWays_door os #[.slice none 0 0, .string ⟨#[]⟩, .int .i64 0])) ?_
  intro W base args ds gs before hval0 hW _ _ hL hsh _
  have hval : ∀ (j : Nat) t v, Tryd.f4.params[j]? = some t → args[j]? = some v → Value.okWide Tryd.prog W .any base t v := hval0
  have hW' := hW
  obtain ⟨p, q, hA0, hV, rfl, hfz, hnd⟩ := hW
  obtain ⟨rfl, rfl⟩ := trodVars_none hV
  have hA : DataW.TrodAll enc Tryd.prog W 0 (fun _ => true) true Tryd.f4.params.toList args.toList ds p := hA0
  rw [Tryd.params4] at hA hval
  clear hA0 hval0
  obtain ⟨v0, vs0, d0, ds0, p0, q0, hargs, rfl, rfl, h0, r0⟩ := trodAll_cons hA
  obtain ⟨v1, vs1, d1, ds1, p1, q1, rfl, rfl, rfl, h1, r1⟩ := trodAll_cons r0
  obtain ⟨v2, vs2, d2, ds2, p2, q2, rfl, rfl, rfl, h2, r2⟩ := trodAll_cons r1
  obtain ⟨rfl, rfl, rfl⟩ := trodAll_nil r2
  obtain rfl : args = #[v0, v1, v2] := by cases args; simp_all
  obtain ⟨l0, hl0⟩ := open_rules_arg (hval 0 30 v0 rfl rfl) h0
  obtain ⟨s1, rfl, rfl, rfl, hs1⟩ := open_string Tryd.underlying9 (hval 1 9 v1 rfl rfl) h1
  obtain ⟨n2, rfl, rfl, rfl, wn2⟩ := open_int Tryd.underlying3 (hval 2 3 v2 rfl rfl) h2
  obtain ⟨E, hE⟩ := link_env (laid := Rows.mirrorWaysRow.laid) (a := ("unicode/utf8.acceptRanges", Rows.laid_unicode_utf8_acceptRanges)) (rest := [("unicode/utf8.first", Rows.laid_unicode_utf8_first)]) hL (by kernel_rfl) (by kernel_rfl) hsh
  refine (mirrorWays_walk hE v0 l0 hl0 s1 n2 wn2).mono fun e W' ⟨he, hb⟩ => ?_
  subst he
  exact ⟨_, rfl, law_post hW' rfl rfl (by rw [Tryd.params4]; intro t ht; have := List.all_eq_true.1 mirrorWays_params t ht; simpa using this) rfl hb⟩

theorem mirrorWays_holds : Rows.MirrorWaysSaid :=
  OpenClaim.holds_of_wide 4 Tryd.f4 rfl rfl rfl rfl rfl rfl rfl ⟨rfl, rfl, rfl, rfl, rfl⟩ rfl rfl rfl rfl rfl (by kernel_rfl) Tryd.func4 (by kernel_rfl)
    (of_decide_eq_true (by kernel_rfl)) (by unfold Func.isWrapper; first | (rw [if_pos (by decide +kernel)]; kernel_rfl) | (rw [if_neg (by decide +kernel)]; exact ⟨rfl, rfl⟩))
    (fun os started H enc _ => mirrorWays_lifted os started H enc)

theorem mirrorWays_card : Rows.MirrorWaysCardSaid :=
  Claim7.holds_tied_plain_at .later [] _ _ _ _
    mirrorWays_holds (fun _ h => by cases h) (by kernel_rfl) (fun _ h => by cases h) mirrorWays_row_tie rfl ⟨rfl, rfl⟩ (by kernel_rfl) rfl
    (fun f fn hf hfn => by
      obtain rfl : f = 4 := Option.some.inj ((show Tryd.prog.funcNamed "chandlery/chandlerylaw2.MirrorWays" = some 4 by kernel_rfl).symm.trans hf) |>.symm
      obtain rfl : fn = Tryd.f4 := (Option.some.inj (Tryd.func4.symm.trans hfn)).symm
      exact ⟨by kernel_rfl, fun j t ht => by
        rw [Tryd.params4] at ht
        have hm : t ∈ [30, 9, 3] := by simpa using Array.mem_of_getElem? ht
        have hall : ([30, 9, 3].all fun u => !Tryd.prog.wantsStandIn u) = true := by kernel_rfl
        exact (show Tryd.prog.wantsStandIn t = false by simpa using List.all_eq_true.1 hall t hm)⟩)
    (by kernel_rfl)
#print axioms mirrorWays_card
end Go.Proofs.YtkplekkldkmdhaaDoor
