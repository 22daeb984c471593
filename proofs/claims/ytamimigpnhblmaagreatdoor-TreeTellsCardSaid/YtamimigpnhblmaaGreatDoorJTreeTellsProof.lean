/-
  chandlery/chandlerylaw1.TreeTells returns true, whatever it is given: any files, any file, any path: what tree tells is what the document tells.
  Conditions: none beyond the row's own (the listed variables read as the program's text lays them, to which the card ties them).
-/
import Derived.Test.YtamimigpnhblmaaGreatDoorJTreeTellsLaw
import Derived.Test.YtamimigpnhblmaaGreatDoorJLaidPath
import Derived.Test.YtamimigpnhblmaaGreatDoorJOpenFile
import Derived.Test.YtamimigpnhblmaaGreatDoorJHanded
import Derived.Lay
import Derived.Lib.LaidIn
import Derived.Test.YtamimigpnhblmaaGreatDoorCards
import Derived.SevenTiedAt
namespace Go.Proofs.YtamimigpnhblmaaGreatDoor
open Go Go.RowKit Go.ChangeShapes Go.WideShapes Go.ChangeAt Go.WideMaps Go.WideElems
open Go.ChangeMaps (setBlock shut_map_nil open_string shut_string keptBut_setBlock frozen?_setBlock heap_setBlock_same)

theorem treeTells_door (os : Os) (args : Array Value) : laidMetH Tryz.prog Rows.treeTellsRow.laid (((World.doorLaid Tryz.prog 400 os).layVars Tryz.prog ((Rows.treeTellsRow.laid.filter fun x => x.2.handleName?.isNone).filter fun x => ["unicode/utf8.first"].contains x.1)).forCall (fun _ _ => 0) ⟨#[], args, []⟩).memory :=
  laidMetH_of_parts3 (fuel := 8) (laidMet_layVars (w0 := World.doorLaid Tryz.prog 400 os) ["unicode/utf8.first"] ((List.range (World.doorLaid Tryz.prog 400 os).heap.size).filter fun b => b != 18) (by simp [World.memory, World.forCall, Input.heap]) (by kernel_rfl) (by kernel_rfl)
    (LaidIn.of_run ((List.range (World.doorLaid Tryz.prog 400 os).heap.size).filter fun b => b != 18) 8 (by kernel_rfl) (by kernel_rfl) (by kernel_rfl) (by kernel_rfl))) (by kernel_rfl) (by kernel_rfl)
theorem treeTells_params : ([22, 22, 24, 9, 3].all fun t => Tryz.prog.readableRec t && decide (t < Tryz.prog.types.size)) = true := by kernel_rfl

set_option maxRecDepth 100000 in
theorem treeTells_lifted (os : Os) (started : os.Started) (H : Type) (enc : TypeId × Value → H) :
    ReturnsInHanded {} Tryz.checked os 3 .any (fun w args => (Rows.treeTellsSpec.pre enc Tryz.prog Tryz.f3 [] false w args ∧ laidMetH Tryz.prog Rows.treeTellsRow.laid w) ∧ sizedMet enc Tryz.prog Tryz.f3 (OpenSpec.ofChange Rows.treeTellsSpec) false w args)
      (Rows.treeTellsSpec.post enc Tryz.prog Tryz.f3 false true false false) := by
  have h1 : laidMetH Tryz.prog Rows.treeTellsRow.laid (((World.doorLaid Tryz.prog 400 os).layVars Tryz.prog ((Rows.treeTellsRow.laid.filter fun x => x.2.handleName?.isNone).filter fun x => ["unicode/utf8.first"].contains x.1)).forCall (fun _ _ => 0) ⟨#[], #[.slice none 0 0, .slice none 0 0, .agg #[.string ⟨#[]⟩, .bool false, .string ⟨#[]⟩], .string ⟨#[]⟩, .int .i64 0], []⟩).memory := treeTells_door os #[.slice none 0 0, .slice none 0 0, .agg #[.string ⟨#[]⟩, .bool false, .string ⟨#[]⟩], .string ⟨#[]⟩, .int .i64 0]
  obtain ⟨w0, hw0⟩ : ∃ w0, w0 = ((World.doorLaid Tryz.prog 400 os).layVars Tryz.prog ((Rows.treeTellsRow.laid.filter fun x => x.2.handleName?.isNone).filter fun x => ["unicode/utf8.first"].contains x.1)) := ⟨_, rfl⟩
  rw [← hw0] at h1
  refine handed_shaped (C := Tryz.checked) (X := fun w _ => laidMetH Tryz.prog Rows.treeTellsRow.laid w) (fun _ _ _ hh h => h.of_heap hh) Tryz.own started (by kernel_rfl) Tryz.func3
    (ChangeSpec.witness_shaped (enc := enc) (C := Tryz.checked) (os := os) (X := fun w _ => laidMetH Tryz.prog Rows.treeTellsRow.laid w) false w0 #[.slice none 0 0, .slice none 0 0, .agg #[.string ⟨#[]⟩, .bool false, .string ⟨#[]⟩], .string ⟨#[]⟩, .int .i64 0] 8 (by rw [hw0, World.layVars_os]; rfl) (by rw [hw0]; exact World.shaped_of_ZipB (by kernel_rfl) (by kernel_rfl)) (by rw [hw0]; kernel_rfl) (by rw [hw0]; kernel_rfl) (by rw [hw0]; kernel_rfl) h1) ?_
  intro W base args ds gs before hval0 hW _ _ hL hsh _
  have hval : ∀ (j : Nat) t v, Tryz.f3.params[j]? = some t → args[j]? = some v → Value.okWide Tryz.prog W .any base t v := hval0
  have hW' := hW
  obtain ⟨p, q, hA0, hV, rfl, hfz, hnd⟩ := hW
  obtain ⟨rfl, rfl⟩ := trodVars_none hV
  have hA : DataW.TrodAll enc Tryz.prog W 0 (fun _ => true) true Tryz.f3.params.toList args.toList ds p := hA0
  rw [Tryz.params3] at hA hval
  clear hA0 hval0
  obtain ⟨v0, vs0, d0, ds0, p0, q0, hargs, rfl, rfl, h0, r0⟩ := trodAll_cons hA
  obtain ⟨v1, vs1, d1, ds1, p1, q1, rfl, rfl, rfl, h1, r1⟩ := trodAll_cons r0
  obtain ⟨v2, vs2, d2, ds2, p2, q2, rfl, rfl, rfl, h2, r2⟩ := trodAll_cons r1
  obtain ⟨v3, vs3, d3, ds3, p3, q3, rfl, rfl, rfl, h3, r3⟩ := trodAll_cons r2
  obtain ⟨v4, vs4, d4, ds4, p4, q4, rfl, rfl, rfl, h4, r4⟩ := trodAll_cons r3
  obtain ⟨rfl, rfl, rfl⟩ := trodAll_nil r4
  obtain rfl : args = #[v0, v1, v2, v3, v4] := by cases args; simp_all
  obtain ⟨l0, hl0⟩ := open_files_arg (hval 0 22 v0 rfl rfl) h0
  obtain ⟨l1, hl1⟩ := open_files_arg (hval 1 22 v1 rfl rfl) h1
  obtain ⟨x2, rfl⟩ := open_file_arg (hval 2 24 v2 rfl rfl) h2
  obtain ⟨s3, rfl, rfl, rfl, hs3⟩ := open_string Tryz.underlying9 (hval 3 9 v3 rfl rfl) h3
  obtain ⟨n4, rfl, rfl, rfl, wn4⟩ := open_int Tryz.underlying3 (hval 4 3 v4 rfl rfl) h4
  obtain ⟨E, hE, hm⟩ := path_env (laid := Rows.treeTellsRow.laid) (a := ("unicode/utf8.acceptRanges", Rows.laid_unicode_utf8_acceptRanges)) (rest := [("unicode/utf8.first", Rows.laid_unicode_utf8_first)]) hL (by kernel_rfl) (by kernel_rfl) hsh
  refine (treeTells_walk (fenv_of hE hm) v0 v1 l0 l1 hl0 hl1 x2 s3 n4 wn4).mono fun e W' ⟨he, hb⟩ => ?_
  subst he
  exact ⟨_, rfl, law_post hW' rfl rfl (by rw [Tryz.params3]; intro t ht; have := List.all_eq_true.1 treeTells_params t ht; simpa using this) rfl hb⟩

theorem treeTells_holds : Rows.TreeTellsSaid :=
  OpenClaim.holds_of_wide 3 Tryz.f3 rfl rfl rfl rfl rfl rfl rfl ⟨rfl, rfl, rfl, rfl, rfl⟩ rfl rfl rfl rfl rfl (by kernel_rfl) Tryz.func3 (by kernel_rfl)
    (of_decide_eq_true (by kernel_rfl)) (by unfold Func.isWrapper; first | (rw [if_pos (by decide +kernel)]; kernel_rfl) | (rw [if_neg (by decide +kernel)]; exact ⟨rfl, rfl⟩))
    (fun os started H enc _ => treeTells_lifted os started H enc)

theorem treeTells_card : Rows.TreeTellsCardSaid :=
  Claim7.holds_tied_plain_at .later [] _ _ _ _
    treeTells_holds (fun _ h => by cases h) (by kernel_rfl) (fun _ h => by cases h) treeTells_row_tie rfl ⟨rfl, rfl⟩ (by kernel_rfl) rfl
    (fun f fn hf hfn => by
      obtain rfl : f = 3 := Option.some.inj ((show Tryz.prog.funcNamed "chandlery/chandlerylaw1.TreeTells" = some 3 by kernel_rfl).symm.trans hf) |>.symm
      obtain rfl : fn = Tryz.f3 := (Option.some.inj (Tryz.func3.symm.trans hfn)).symm
      exact ⟨by kernel_rfl, fun j t ht => by
        rw [Tryz.params3] at ht
        have hm : t ∈ [22, 22, 24, 9, 3] := by simpa using Array.mem_of_getElem? ht
        have hall : ([22, 22, 24, 9, 3].all fun u => !Tryz.prog.wantsStandIn u) = true := by kernel_rfl
        exact (show Tryz.prog.wantsStandIn t = false by simpa using List.all_eq_true.1 hall t hm)⟩)
    (by kernel_rfl)
#print axioms treeTells_card
end Go.Proofs.YtamimigpnhblmaaGreatDoor
