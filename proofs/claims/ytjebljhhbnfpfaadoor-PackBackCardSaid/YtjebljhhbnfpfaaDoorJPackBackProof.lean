/-
  chandlery/chandlerylaw1.PackBack returns true, whatever it is given: a tree is read as it was written; what is read has no path that leads out; what is cut short is none, but at the end of a file.
  Conditions: none beyond the row's own (the listed variables read as the program's text lays them, to which the card ties them).
-/
import Derived.Test.YtjebljhhbnfpfaaDoorJPackBackLaw
import Derived.Test.YtjebljhhbnfpfaaDoorJHanded
import Derived.Lay
import Derived.Lib.LaidIn
import Derived.Test.YtjebljhhbnfpfaaDoorCards
import Derived.SevenTiedAt
namespace Go.Proofs.YtjebljhhbnfpfaaDoor
open Go Go.RowKit Go.ChangeShapes Go.WideShapes Go.ChangeAt Go.WideMaps Go.WideElems
open Go.ChangeMaps (setBlock shut_map_nil open_string shut_string keptBut_setBlock frozen?_setBlock heap_setBlock_same)

theorem packBack_door (os : Os) (args : Array Value) : laidMetH Tryd.prog Rows.packBackRow.laid (((World.doorLaid Tryd.prog 400 os).layVars Tryd.prog ((Rows.packBackRow.laid.filter fun x => x.2.handleName?.isNone).filter fun x => ["unicode/utf8.first"].contains x.1)).forCall (fun _ _ => 0) ⟨#[], args, []⟩).memory :=
  laidMetH_of_parts3 (fuel := 8) (laidMet_layVars (w0 := World.doorLaid Tryd.prog 400 os) ["unicode/utf8.first"] ((List.range (World.doorLaid Tryd.prog 400 os).heap.size).filter fun b => b != 10) (by simp [World.memory, World.forCall, Input.heap]) (by kernel_rfl) (by kernel_rfl)
    (LaidIn.of_run ((List.range (World.doorLaid Tryd.prog 400 os).heap.size).filter fun b => b != 10) 8 (by kernel_rfl) (by kernel_rfl) (by kernel_rfl) (by kernel_rfl))) (by kernel_rfl) (by kernel_rfl)
theorem packBack_params : ([22, 9, 3].all fun t => Tryd.prog.readableRec t && decide (t < Tryd.prog.types.size)) = true := by kernel_rfl

set_option maxRecDepth 100000 in
theorem packBack_lifted (os : Os) (started : os.Started) (H : Type) (enc : TypeId × Value → H) :
    ReturnsInHanded {} Tryd.checked os 3 .any (fun w args => (Rows.packBackSpec.pre enc Tryd.prog Tryd.f3 [] false w args ∧ laidMetH Tryd.prog Rows.packBackRow.laid w) ∧ sizedMet enc Tryd.prog Tryd.f3 (OpenSpec.ofChange Rows.packBackSpec) false w args)
      (Rows.packBackSpec.post enc Tryd.prog Tryd.f3 false true false false) := by
  have h1 : laidMetH Tryd.prog Rows.packBackRow.laid (((World.doorLaid Tryd.prog 400 os).layVars Tryd.prog ((Rows.packBackRow.laid.filter fun x => x.2.handleName?.isNone).filter fun x => ["unicode/utf8.first"].contains x.1)).forCall (fun _ _ => 0) ⟨#[], #[.slice none 0 0, .string ⟨#[]⟩, .int .i64 0], []⟩).memory := packBack_door os #[.slice none 0 0, .string ⟨#[]⟩, .int .i64 0]
  obtain ⟨w0, hw0⟩ : ∃ w0, w0 = ((World.doorLaid Tryd.prog 400 os).layVars Tryd.prog ((Rows.packBackRow.laid.filter fun x => x.2.handleName?.isNone).filter fun x => ["unicode/utf8.first"].contains x.1)) := ⟨_, rfl⟩
  rw [← hw0] at h1
  refine handed_shaped (C := Tryd.checked) (X := fun w _ => laidMetH Tryd.prog Rows.packBackRow.laid w) (fun _ _ _ hh h => h.of_heap hh) Tryd.own started (by kernel_rfl) Tryd.func3
    (ChangeSpec.witness_shaped (enc := enc) (C := Tryd.checked) (os := os) (X := fun w _ => laidMetH Tryd.prog Rows.packBackRow.laid w) false w0 #[.slice none 0 0, .string ⟨#[]⟩, .int .i64 0] 8 (by rw [hw0, World.layVars_os]; rfl) (by rw [hw0]; exact World.shaped_of_ZipB (by kernel_rfl) (by kernel_rfl)) (by rw [hw0]; kernel_rfl) (by rw [hw0]; kernel_rfl) (by rw [hw0]; kernel_rfl) h1) ?_
  intro W base args ds gs before hval0 hW _ _ hL hsh _
  have hval : ∀ (j : Nat) t v, Tryd.f3.params[j]? = some t → args[j]? = some v → Value.okWide Tryd.prog W .any base t v := hval0
  have hW' := hW
  obtain ⟨p, q, hA0, hV, rfl, hfz, hnd⟩ := hW
  obtain ⟨rfl, rfl⟩ := trodVars_none hV
  have hA : DataW.TrodAll enc Tryd.prog W 0 (fun _ => true) true Tryd.f3.params.toList args.toList ds p := hA0
  rw [Tryd.params3] at hA hval
  clear hA0 hval0
  obtain ⟨v0, vs0, d0, ds0, p0, q0, hargs, rfl, rfl, h0, r0⟩ := trodAll_cons hA
  obtain ⟨v1, vs1, d1, ds1, p1, q1, rfl, rfl, rfl, h1, r1⟩ := trodAll_cons r0
  obtain ⟨v2, vs2, d2, ds2, p2, q2, rfl, rfl, rfl, h2, r2⟩ := trodAll_cons r1
  obtain ⟨rfl, rfl, rfl⟩ := trodAll_nil r2
  obtain rfl : args = #[v0, v1, v2] := by cases args; simp_all
  obtain ⟨l0, hl0⟩ := open_files_arg (hval 0 22 v0 rfl rfl) h0
  obtain ⟨s1, rfl, rfl, rfl, hs1⟩ := open_string Tryd.underlying9 (hval 1 9 v1 rfl rfl) h1
  obtain ⟨n2, rfl, rfl, rfl, wn2⟩ := open_int Tryd.underlying3 (hval 2 3 v2 rfl rfl) h2
  obtain ⟨E, hR⟩ := pack_env (laid := Rows.packBackRow.laid) (a := ("math/bits.deBruijn32tab", Rows.laid_math_bits_deBruijn32tab)) (b := ("math/bits.deBruijn64tab", Rows.laid_math_bits_deBruijn64tab)) (c := ("unicode/utf8.acceptRanges", Rows.laid_unicode_utf8_acceptRanges)) (rest := [("unicode/utf8.first", Rows.laid_unicode_utf8_first)]) hL (by kernel_rfl) (by kernel_rfl) hsh
  refine (packBack_walk hR v0 l0 hl0 s1 n2).mono fun e W' ⟨he, hb⟩ => ?_
  subst he
  exact ⟨_, rfl, law_post hW' rfl rfl (by rw [Tryd.params3]; intro t ht; have := List.all_eq_true.1 packBack_params t ht; simpa using this) rfl hb⟩

theorem packBack_holds : Rows.PackBackSaid :=
  OpenClaim.holds_of_wide 3 Tryd.f3 rfl rfl rfl rfl rfl rfl rfl ⟨rfl, rfl, rfl, rfl, rfl⟩ rfl rfl rfl rfl rfl (by kernel_rfl) Tryd.func3 (by kernel_rfl)
    (of_decide_eq_true (by kernel_rfl)) (by unfold Func.isWrapper; first | (rw [if_pos (by decide +kernel)]; kernel_rfl) | (rw [if_neg (by decide +kernel)]; exact ⟨rfl, rfl⟩))
    (fun os started H enc _ => packBack_lifted os started H enc)

theorem packBack_card : Rows.PackBackCardSaid :=
  Claim7.holds_tied_plain_at .later [] _ _ _ _
    packBack_holds (fun _ h => by cases h) (by kernel_rfl) (fun _ h => by cases h) packBack_row_tie rfl ⟨rfl, rfl⟩ (by kernel_rfl) rfl
    (fun f fn hf hfn => by
      obtain rfl : f = 3 := Option.some.inj ((show Tryd.prog.funcNamed "chandlery/chandlerylaw1.PackBack" = some 3 by kernel_rfl).symm.trans hf) |>.symm
      obtain rfl : fn = Tryd.f3 := (Option.some.inj (Tryd.func3.symm.trans hfn)).symm
      exact ⟨by kernel_rfl, fun j t ht => by
        rw [Tryd.params3] at ht
        have hm : t ∈ [22, 9, 3] := by simpa using Array.mem_of_getElem? ht
        have hall : ([22, 9, 3].all fun u => !Tryd.prog.wantsStandIn u) = true := by kernel_rfl
        exact (show Tryd.prog.wantsStandIn t = false by simpa using List.all_eq_true.1 hall t hm)⟩)
    (by kernel_rfl)
#print axioms packBack_card
end Go.Proofs.YtjebljhhbnfpfaaDoor
