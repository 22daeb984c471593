/-
  chandlery/chandlerylaw2.NetBegins returns true, whatever it is given: what comes from a net is the beginning of what was put last; of a host that is off nothing comes.
  Conditions: none beyond the row's own (the listed variables read as the program's text lays them, to which the card ties them).
-/
import Derived.Test.YtpafddeakanopaaDoorNetBeginsLaw
import Derived.Test.YtpafddeakanopaaDoorLaidPath
import Derived.Test.YtpafddeakanopaaDoorOpenActs
import Derived.Test.YtpafddeakanopaaDoorShaped
import Derived.Lay
import Derived.Lib.LaidIn
import Derived.Test.YtpafddeakanopaaDoorCards
import Derived.SevenTiedAt
namespace Go.Proofs.YtpafddeakanopaaDoor
open Go Go.RowKit Go.ChangeShapes Go.WideShapes Go.ChangeAt Go.WideMaps Go.WideElems
open Go.ChangeMaps (setBlock shut_map_nil open_string shut_string keptBut_setBlock frozen?_setBlock heap_setBlock_same)

theorem netBegins_door (os : Os) (args : Array Value) : laidMetH Tryd.prog Rows.netBeginsRow.laid (((World.doorLaid Tryd.prog 400 os).layVars Tryd.prog ((Rows.netBeginsRow.laid.filter fun x => x.2.handleName?.isNone).filter fun x => ["unicode/utf8.first"].contains x.1)).forCall (fun _ _ => 0) ⟨#[], args, []⟩).memory :=
  laidMetH_of_parts3 (fuel := 8) (laidMet_layVars (w0 := World.doorLaid Tryd.prog 400 os) ["unicode/utf8.first"] ((List.range (World.doorLaid Tryd.prog 400 os).heap.size).filter fun b => b != 18) (by simp [World.memory, World.forCall, Input.heap]) (by kernel_rfl) (by kernel_rfl)
    (LaidIn.of_run ((List.range (World.doorLaid Tryd.prog 400 os).heap.size).filter fun b => b != 18) 8 (by kernel_rfl) (by kernel_rfl) (by kernel_rfl) (by kernel_rfl))) (by kernel_rfl) (by kernel_rfl)
theorem netBegins_params : ([59].all fun t => Tryd.prog.readableRec t && decide (t < Tryd.prog.types.size)) = true := by kernel_rfl

set_option maxRecDepth 100000 in
theorem netBegins_lifted (os : Os) (started : os.Started) (H : Type) (enc : TypeId × Value → H) :
    ReturnsInHanded {} Tryd.checked os 6 .any (fun w args => (Rows.netBeginsSpec.pre enc Tryd.prog Tryd.f6 [] false w args ∧ laidMetH Tryd.prog Rows.netBeginsRow.laid w) ∧ sizedMet enc Tryd.prog Tryd.f6 (OpenSpec.ofChange Rows.netBeginsSpec) false w args)
      (Rows.netBeginsSpec.post enc Tryd.prog Tryd.f6 false true false false) := by
  have h1 : laidMetH Tryd.prog Rows.netBeginsRow.laid (((World.doorLaid Tryd.prog 400 os).layVars Tryd.prog ((Rows.netBeginsRow.laid.filter fun x => x.2.handleName?.isNone).filter fun x => ["unicode/utf8.first"].contains x.1)).forCall (fun _ _ => 0) ⟨#[], #[.slice none 0 0], []⟩).memory := netBegins_door os #[.slice none 0 0]
  obtain ⟨w0, hw0⟩ : ∃ w0, w0 = ((World.doorLaid Tryd.prog 400 os).layVars Tryd.prog ((Rows.netBeginsRow.laid.filter fun x => x.2.handleName?.isNone).filter fun x => ["unicode/utf8.first"].contains x.1)) := ⟨_, rfl⟩
  rw [← hw0] at h1
  refine handed_shaped (C := Tryd.checked) (X := fun w _ => laidMetH Tryd.prog Rows.netBeginsRow.laid w) (fun _ _ _ hh h => h.of_heap hh) Tryd.own started (by kernel_rfl) Tryd.func6
    (ChangeSpec.witness_shaped (enc := enc) (C := Tryd.checked) (os := os) (X := fun w _ => laidMetH Tryd.prog Rows.netBeginsRow.laid w) false w0 #[.slice none 0 0] 8 (by rw [hw0, World.layVars_os]; rfl) (by rw [hw0]; exact World.shaped_of_ZipB (by kernel_rfl) (by kernel_rfl)) (by rw [hw0]; kernel_rfl) (by rw [hw0]; kernel_rfl) (by rw [hw0]; kernel_rfl) h1) ?_
  intro W base args ds gs before hval0 hW _ _ hL hsh _
  have hval : ∀ (j : Nat) t v, Tryd.f6.params[j]? = some t → args[j]? = some v → Value.okWide Tryd.prog W .any base t v := hval0
  have hW' := hW
  obtain ⟨p, q, hA0, hV, rfl, hfz, hnd⟩ := hW
  obtain ⟨rfl, rfl⟩ := trodVars_none hV
  have hA : DataW.TrodAll enc Tryd.prog W 0 (fun _ => true) true Tryd.f6.params.toList args.toList ds p := hA0
  rw [Tryd.params6] at hA hval
  clear hA0 hval0
  obtain ⟨v0, vs0, d0, ds0, p0, q0, hargs, rfl, rfl, h0, r0⟩ := trodAll_cons hA
  obtain ⟨rfl, rfl, rfl⟩ := trodAll_nil r0
  obtain rfl : args = #[v0] := by cases args; simp_all
  obtain ⟨l0, hl0⟩ := open_acts_arg (hval 0 59 v0 rfl rfl) h0
  obtain ⟨E, hE, hm⟩ := path_env (laid := Rows.netBeginsRow.laid) (a := ("unicode/utf8.acceptRanges", Rows.laid_unicode_utf8_acceptRanges)) (rest := [("unicode/utf8.first", Rows.laid_unicode_utf8_first)]) hL (by kernel_rfl) (by kernel_rfl) hsh
  refine (netBegins_walk (nenv_of hE hm) v0 l0 hl0).mono fun e W' ⟨he, hb⟩ => ?_
  subst he
  exact ⟨_, rfl, law_post hW' rfl rfl (by rw [Tryd.params6]; intro t ht; have := List.all_eq_true.1 netBegins_params t ht; simpa using this) rfl hb⟩

theorem netBegins_holds : Rows.NetBeginsSaid :=
  OpenClaim.holds_of_wide 6 Tryd.f6 rfl rfl rfl rfl rfl rfl rfl ⟨rfl, rfl, rfl, rfl, rfl⟩ rfl rfl rfl rfl rfl (by kernel_rfl) Tryd.func6 (by kernel_rfl)
    (of_decide_eq_true (by kernel_rfl)) (by unfold Func.isWrapper; first | (rw [if_pos (by decide +kernel)]; kernel_rfl) | (rw [if_neg (by decide +kernel)]; exact ⟨rfl, rfl⟩))
    (fun os started H enc _ => netBegins_lifted os started H enc)

theorem netBegins_card : Rows.NetBeginsCardSaid :=
  Claim7.holds_tied_plain_at .later [] _ _ _ _
    netBegins_holds (fun _ h => by cases h) (by kernel_rfl) (fun _ h => by cases h) netBegins_row_tie rfl ⟨rfl, rfl⟩ (by kernel_rfl) rfl
    (fun f fn hf hfn => by
      obtain rfl : f = 6 := Option.some.inj ((show Tryd.prog.funcNamed "chandlery/chandlerylaw2.NetBegins" = some 6 by kernel_rfl).symm.trans hf) |>.symm
      obtain rfl : fn = Tryd.f6 := (Option.some.inj (Tryd.func6.symm.trans hfn)).symm
      exact ⟨by kernel_rfl, fun j t ht => by
        rw [Tryd.params6] at ht
        have hm : t ∈ [59] := by simpa using Array.mem_of_getElem? ht
        have hall : ([59].all fun u => !Tryd.prog.wantsStandIn u) = true := by kernel_rfl
        exact (show Tryd.prog.wantsStandIn t = false by simpa using List.all_eq_true.1 hall t hm)⟩)
    (by kernel_rfl)
#print axioms netBegins_card
end Go.Proofs.YtpafddeakanopaaDoor
