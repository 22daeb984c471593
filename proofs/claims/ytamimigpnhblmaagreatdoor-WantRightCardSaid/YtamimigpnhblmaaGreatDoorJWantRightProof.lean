/-
  chandlery/chandlerylaw2.WantRight returns true, whatever it is given: what is right has the sum; a tree that is packed, or pressed, is what it was, below what is stripped; with another sum nothing is right.
  Conditions: none beyond the row's own (the listed variables read as the program's text lays them, to which the card ties them).
-/
import Derived.Test.YtamimigpnhblmaaGreatDoorJWantRightLaw
import Derived.Test.YtamimigpnhblmaaGreatDoorJHanded
import Derived.Test.YtamimigpnhblmaaGreatDoorJOpenWant
import Derived.Lay
import Derived.Lib.LaidIn
import Derived.Test.YtamimigpnhblmaaGreatDoorCards
import Derived.SevenTiedAt
namespace Go.Proofs.YtamimigpnhblmaaGreatDoor
open Go Go.RowKit Go.ChangeShapes Go.WideShapes Go.ChangeAt Go.WideMaps Go.WideElems
open Go.ChangeMaps (setBlock shut_map_nil open_string shut_string keptBut_setBlock frozen?_setBlock heap_setBlock_same)

theorem wantRight_door (os : Os) (args : Array Value) : laidMetH Tryz.prog Rows.wantRightRow.laid (((World.doorLaid Tryz.prog 400 os).layVars Tryz.prog ((Rows.wantRightRow.laid.filter fun x => x.2.handleName?.isNone).filter fun x => ["unicode/utf8.first"].contains x.1)).forCall (fun _ _ => 0) ⟨#[], args, []⟩).memory :=
  laidMetH_of_parts3 (fuel := 8) (laidMet_layVars (w0 := World.doorLaid Tryz.prog 400 os) ["unicode/utf8.first"] ((List.range (World.doorLaid Tryz.prog 400 os).heap.size).filter fun b => b != 18) (by simp [World.memory, World.forCall, Input.heap]) (by kernel_rfl) (by kernel_rfl)
    (LaidIn.of_run ((List.range (World.doorLaid Tryz.prog 400 os).heap.size).filter fun b => b != 18) 8 (by kernel_rfl) (by kernel_rfl) (by kernel_rfl) (by kernel_rfl))) (by kernel_rfl) (by kernel_rfl)
theorem wantRight_params : ([51, 22, 9].all fun t => Tryz.prog.readableRec t && decide (t < Tryz.prog.types.size)) = true := by kernel_rfl

set_option maxRecDepth 100000 in
theorem wantRight_lifted (os : Os) (started : os.Started) (H : Type) (enc : TypeId × Value → H) :
    ReturnsInHanded {} Tryz.checked os 5 .any (fun w args => (Rows.wantRightSpec.pre enc Tryz.prog Tryz.f5 [] false w args ∧ laidMetH Tryz.prog Rows.wantRightRow.laid w) ∧ sizedMet enc Tryz.prog Tryz.f5 (OpenSpec.ofChange Rows.wantRightSpec) false w args)
      (Rows.wantRightSpec.post enc Tryz.prog Tryz.f5 false true false false) := by
  have h1 : laidMetH Tryz.prog Rows.wantRightRow.laid (((World.doorLaid Tryz.prog 400 os).layVars Tryz.prog ((Rows.wantRightRow.laid.filter fun x => x.2.handleName?.isNone).filter fun x => ["unicode/utf8.first"].contains x.1)).forCall (fun _ _ => 0) ⟨#[], #[.agg #[.string ⟨#[]⟩, .string ⟨#[]⟩, .string ⟨#[]⟩, .int .i64 0, .int .i64 0], .slice none 0 0, .string ⟨#[]⟩], []⟩).memory := wantRight_door os #[.agg #[.string ⟨#[]⟩, .string ⟨#[]⟩, .string ⟨#[]⟩, .int .i64 0, .int .i64 0], .slice none 0 0, .string ⟨#[]⟩]
  obtain ⟨w0, hw0⟩ : ∃ w0, w0 = ((World.doorLaid Tryz.prog 400 os).layVars Tryz.prog ((Rows.wantRightRow.laid.filter fun x => x.2.handleName?.isNone).filter fun x => ["unicode/utf8.first"].contains x.1)) := ⟨_, rfl⟩
  rw [← hw0] at h1
  refine handed_shaped (C := Tryz.checked) (X := fun w _ => laidMetH Tryz.prog Rows.wantRightRow.laid w) (fun _ _ _ hh h => h.of_heap hh) Tryz.own started (by kernel_rfl) Tryz.func5
    (ChangeSpec.witness_shaped (enc := enc) (C := Tryz.checked) (os := os) (X := fun w _ => laidMetH Tryz.prog Rows.wantRightRow.laid w) false w0 #[.agg #[.string ⟨#[]⟩, .string ⟨#[]⟩, .string ⟨#[]⟩, .int .i64 0, .int .i64 0], .slice none 0 0, .string ⟨#[]⟩] 8 (by rw [hw0, World.layVars_os]; rfl) (by rw [hw0]; exact World.shaped_of_ZipB (by kernel_rfl) (by kernel_rfl)) (by rw [hw0]; kernel_rfl) (by rw [hw0]; kernel_rfl) (by rw [hw0]; kernel_rfl) h1) ?_
  intro W base args ds gs before hval0 hW _ _ hL hsh _
  have hval : ∀ (j : Nat) t v, Tryz.f5.params[j]? = some t → args[j]? = some v → Value.okWide Tryz.prog W .any base t v := hval0
  have hW' := hW
  obtain ⟨p, q, hA0, hV, rfl, hfz, hnd⟩ := hW
  obtain ⟨rfl, rfl⟩ := trodVars_none hV
  have hA : DataW.TrodAll enc Tryz.prog W 0 (fun _ => true) true Tryz.f5.params.toList args.toList ds p := hA0
  rw [Tryz.params5] at hA hval
  clear hA0 hval0
  obtain ⟨v0, vs0, d0, ds0, p0, q0, hargs, rfl, rfl, h0, r0⟩ := trodAll_cons hA
  obtain ⟨v1, vs1, d1, ds1, p1, q1, rfl, rfl, rfl, h1, r1⟩ := trodAll_cons r0
  obtain ⟨v2, vs2, d2, ds2, p2, q2, rfl, rfl, rfl, h2, r2⟩ := trodAll_cons r1
  obtain ⟨rfl, rfl, rfl⟩ := trodAll_nil r2
  obtain rfl : args = #[v0, v1, v2] := by cases args; simp_all
  obtain ⟨x0, rfl⟩ := open_want_arg (hval 0 51 v0 rfl rfl) h0
  obtain ⟨l1, hl1⟩ := open_files_arg (hval 1 22 v1 rfl rfl) h1
  obtain ⟨s2, rfl, rfl, rfl, hs2⟩ := open_string Tryz.underlying9 (hval 2 9 v2 rfl rfl) h2
  obtain ⟨E, hR⟩ := pack_env (laid := Rows.wantRightRow.laid) (a := ("math/bits.deBruijn32tab", Rows.laid_math_bits_deBruijn32tab)) (b := ("math/bits.deBruijn64tab", Rows.laid_math_bits_deBruijn64tab)) (c := ("unicode/utf8.acceptRanges", Rows.laid_unicode_utf8_acceptRanges)) (rest := [("unicode/utf8.first", Rows.laid_unicode_utf8_first)]) hL (by kernel_rfl) (by kernel_rfl) hsh
  refine (wantRight_walk hR x0 v1 l1 hl1 s2).mono fun e W' ⟨he, hb⟩ => ?_
  subst he
  exact ⟨_, rfl, law_post hW' rfl rfl (by rw [Tryz.params5]; intro t ht; have := List.all_eq_true.1 wantRight_params t ht; simpa using this) rfl hb⟩

theorem wantRight_holds : Rows.WantRightSaid :=
  OpenClaim.holds_of_wide 5 Tryz.f5 rfl rfl rfl rfl rfl rfl rfl ⟨rfl, rfl, rfl, rfl, rfl⟩ rfl rfl rfl rfl rfl (by kernel_rfl) Tryz.func5 (by kernel_rfl)
    (of_decide_eq_true (by kernel_rfl)) (by unfold Func.isWrapper; first | (rw [if_pos (by decide +kernel)]; kernel_rfl) | (rw [if_neg (by decide +kernel)]; exact ⟨rfl, rfl⟩))
    (fun os started H enc _ => wantRight_lifted os started H enc)

theorem wantRight_card : Rows.WantRightCardSaid :=
  Claim7.holds_tied_plain_at .later [] _ _ _ _
    wantRight_holds (fun _ h => by cases h) (by kernel_rfl) (fun _ h => by cases h) wantRight_row_tie rfl ⟨rfl, rfl⟩ (by kernel_rfl) rfl
    (fun f fn hf hfn => by
      obtain rfl : f = 5 := Option.some.inj ((show Tryz.prog.funcNamed "chandlery/chandlerylaw2.WantRight" = some 5 by kernel_rfl).symm.trans hf) |>.symm
      obtain rfl : fn = Tryz.f5 := (Option.some.inj (Tryz.func5.symm.trans hfn)).symm
      exact ⟨by kernel_rfl, fun j t ht => by
        rw [Tryz.params5] at ht
        have hm : t ∈ [51, 22, 9] := by simpa using Array.mem_of_getElem? ht
        have hall : ([51, 22, 9].all fun u => !Tryz.prog.wantsStandIn u) = true := by kernel_rfl
        exact (show Tryz.prog.wantsStandIn t = false by simpa using List.all_eq_true.1 hall t hm)⟩)
    (by kernel_rfl)
#print axioms wantRight_card
end Go.Proofs.YtamimigpnhblmaaGreatDoor
