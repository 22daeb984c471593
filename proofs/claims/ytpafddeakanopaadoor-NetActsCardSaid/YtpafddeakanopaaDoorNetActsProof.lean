/-
  chandlery/chandlerylaw2.NetActs returns true, whatever it is given: any acts on a net: the net and the reference's net answer the same.
  Conditions: none beyond the row's own (the listed variables read as the program's text lays them, to which the card ties them).
-/
import Derived.Test.YtpafddeakanopaaDoorNetActsLaw
import Derived.Test.YtpafddeakanopaaDoorLaidPath
import Derived.Test.YtpafddeakanopaaDoorOpenActs
import Derived.Test.YtpafddeakanopaaDoorShaped
import Derived.Lay
import Derived.Lib.LaidIn
import Derived.Test.YtpafddeakanopaaDoorCards
import Derived.SevenTiedAt
namespace Go.Proofs.YtpafddeakanopaaDoor
open Go Go.RowKit Go.ChangeShapes Go.WideShapes Go.ChangeAt Go.WideMaps Go.WideElems
open Go.ChangeMaps (setBlock shut_map_nil open_string shut_string keptBut_setBlock frozen?_setBlock heap_setBlock_same)

theorem netActs_door (os : Os) (args : Array Value) : laidMetH Tryd.prog Rows.netActsRow.laid (((World.doorLaid Tryd.prog 400 os).layVars Tryd.prog ((Rows.netActsRow.laid.filter fun x => x.2.handleName?.isNone).filter fun x => ["unicode/utf8.first"].contains x.1)).forCall (fun _ _ => 0) ⟨#[], args, []⟩).memory :=
  laidMetH_of_parts3 (fuel := 8) (laidMet_layVars (w0 := World.doorLaid Tryd.prog 400 os) ["unicode/utf8.first"] ((List.range (World.doorLaid Tryd.prog 400 os).heap.size).filter fun b => b != 18) (by simp [World.memory, World.forCall, Input.heap]) (by kernel_rfl) (by kernel_rfl)
    (LaidIn.of_run ((List.range (World.doorLaid Tryd.prog 400 os).heap.size).filter fun b => b != 18) 8 (by kernel_rfl) (by kernel_rfl) (by kernel_rfl) (by kernel_rfl))) (by kernel_rfl) (by kernel_rfl)
theorem netActs_params : ([59].all fun t => Tryd.prog.readableRec t && decide (t < Tryd.prog.types.size)) = true := by kernel_rfl

set_option maxRecDepth 100000 in
theorem netActs_lifted (os : Os) (started : os.Started) (H : Type) (enc : TypeId × Value → H) :
    ReturnsInHanded {} Tryd.checked os 7 .any (fun w args => (Rows.netActsSpec.pre enc Tryd.prog Tryd.f7 [] false w args ∧ laidMetH Tryd.prog Rows.netActsRow.laid w) ∧ sizedMet enc Tryd.prog Tryd.f7 (OpenSpec.ofChange Rows.netActsSpec) false w args)
      (Rows.netActsSpec.post enc Tryd.prog Tryd.f7 false true false false) := by
  have h1 : laidMetH Tryd.prog Rows.netActsRow.laid (((World.doorLaid Tryd.prog 400 os).layVars Tryd.prog ((Rows.netActsRow.laid.filter fun x => x.2.handleName?.isNone).filter fun x => ["unicode/utf8.first"].contains x.1)).forCall (fun _ _ => 0) ⟨#[], #[.slice none 0 0], []⟩).memory := netActs_door os #[.slice none 0 0]
  obtain ⟨w0, hw0⟩ : ∃ w0, w0 = ((World.doorLaid Tryd.prog 400 os).layVars Tryd.prog ((Rows.netActsRow.laid.filter fun x => x.2.handleName?.isNone).filter fun x => ["unicode/utf8.first"].contains x.1)) := ⟨_, rfl⟩
  rw [← hw0] at h1
  refine handed_shaped (C := Tryd.checked) (X := fun w _ => laidMetH Tryd.prog Rows.netActsRow.laid w) (fun _ _ _ hh h => h.of_heap hh) Tryd.own started (by kernel_rfl) Tryd.func7
    (ChangeSpec.witness_shaped (enc := enc) (C := Tryd.checked) (os := os) (X := fun w _ => laidMetH Tryd.prog Rows.netActsRow.laid w) false w0 #[.slice none 0 0] 8 (by rw [hw0, World.layVars_os]; rfl) (by rw [hw0]; exact World.shaped_of_ZipB (by kernel_rfl) (by kernel_rfl)) (by rw [hw0]; kernel_rfl) (by rw [hw0]; kernel_rfl) (by rw [hw0]; kernel_rfl) h1) ?_
  intro W base args ds gs before hval0 hW _ _ hL hsh _
  have hval : ∀ (j : Nat) t v, Tryd.f7.params[j]? = some t → args[j]? = some v → Value.okWide Tryd.prog W .any base t v := hval0
  have hW' := hW
  obtain ⟨p, q, hA0, hV, rfl, hfz, hnd⟩ := hW
  obtain ⟨rfl, rfl⟩ := trodVars_none hV
  have hA : DataW.TrodAll enc Tryd.prog W 0 (fun _ => true) true Tryd.f7.params.toList args.toList ds p := hA0
  rw [Tryd.params7] at hA hval
  clear hA0 hval0
  obtain ⟨v0, vs0, d0, ds0, p0, q0, hargs, rfl, rfl, h0, r0⟩ := trodAll_cons hA
  obtain ⟨rfl, rfl, rfl⟩ := trodAll_nil r0
  obtain rfl : args = #[v0] := by cases args; simp_all
  obtain ⟨l0, hl0⟩ := open_acts_arg (hval 0 59 v0 rfl rfl) h0
  obtain ⟨E, hE, hm⟩ := path_env (laid := Rows.netActsRow.laid) (a := ("unicode/utf8.acceptRanges", Rows.laid_unicode_utf8_acceptRanges)) (rest := [("unicode/utf8.first", Rows.laid_unicode_utf8_first)]) hL (by kernel_rfl) (by kernel_rfl) hsh
  refine (netActs_walk (nenv_of hE hm) v0 l0 hl0).mono fun e W' ⟨he, hb⟩ => ?_
  subst he
  exact ⟨_, rfl, law_post hW' rfl rfl (by rw [Tryd.params7]; intro t ht; have := List.all_eq_true.1 netActs_params t ht; simpa using this) rfl hb⟩

theorem netActs_holds : Rows.NetActsSaid :=
  OpenClaim.holds_of_wide 7 Tryd.f7 rfl rfl rfl rfl rfl rfl rfl ⟨rfl, rfl, rfl, rfl, rfl⟩ rfl rfl rfl rfl rfl (by kernel_rfl) Tryd.func7 (by kernel_rfl)
    (of_decide_eq_true (by kernel_rfl)) (by unfold Func.isWrapper; first | (rw [if_pos (by decide +kernel)]; kernel_rfl) | (rw [if_neg (by decide +kernel)]; exact ⟨rfl, rfl⟩))
    (fun os started H enc _ => netActs_lifted os started H enc)

theorem netActs_card : Rows.NetActsCardSaid :=
  Claim7.holds_tied_plain_at .later [] _ _ _ _
    netActs_holds (fun _ h => by cases h) (by kernel_rfl) (fun _ h => by cases h) netActs_row_tie rfl ⟨rfl, rfl⟩ (by kernel_rfl) rfl
    (fun f fn hf hfn => by
      obtain rfl : f = 7 := Option.some.inj ((show Tryd.prog.funcNamed "chandlery/chandlerylaw2.NetActs" = some 7 by kernel_rfl).symm.trans hf) |>.symm
      obtain rfl : fn = Tryd.f7 := (Option.some.inj (Tryd.func7.symm.trans hfn)).symm
      exact ⟨by kernel_rfl, fun j t ht => by
        rw [Tryd.params7] at ht
        have hm : t ∈ [59] := by simpa using Array.mem_of_getElem? ht
        have hall : ([59].all fun u => !Tryd.prog.wantsStandIn u) = true := by kernel_rfl
        exact (show Tryd.prog.wantsStandIn t = false by simpa using List.all_eq_true.1 hall t hm)⟩)
    (by kernel_rfl)
#print axioms netActs_card
end Go.Proofs.YtpafddeakanopaaDoor
