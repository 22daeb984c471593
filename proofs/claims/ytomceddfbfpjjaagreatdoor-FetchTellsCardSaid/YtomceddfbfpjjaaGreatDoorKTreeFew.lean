/- slices.Equal at files; tree.Same: contracts. tree.Bare: the contract. slices.Clone of files: the contract. -/
import Derived.Test.YtomceddfbfpjjaaGreatDoorKTreed
import Derived.Test.YtomceddfbfpjjaaGreatDoorKPlainly
import Derived.Test.YtomceddfbfpjjaaGreatDoorKErrors
import Derived.Test.YtomceddfbfpjjaaGreatDoorKFiles
import Derived.Laws.NewBlocks
import Derived.Lib.SliceRun
namespace Go.Proofs.YtomceddfbfpjjaaGreatDoor
open Go Go.RowKit

theorem file_eq (f g : FileB) : f = g ↔ f.path = g.path ∧ f.run = g.run ∧ f.text = g.text := by
  constructor
  · rintro rfl; exact ⟨rfl, rfl, rfl⟩
  · cases f; cases g; rintro ⟨h1, h2, h3⟩; simp only at h1 h2 h3; subst h1; subst h2; subst h3; rfl
instance : DecidableEq FileB := fun f g => decidable_of_iff _ (file_eq f g).symm
theorem str_eqb (a b : ByteArray) : (a.toList == b.toList) = decide (a = b) := by
  by_cases h : a = b
  · subst h; simp
  · rw [decide_eq_false h, beq_eq_false_iff_ne]
    exact fun e => h (bl_inj (by rw [toList_bl, toList_bl] at e; exact e))

end Go.Proofs.YtomceddfbfpjjaaGreatDoor

namespace Go.Proofs.YtomceddfbfpjjaaGreatDoor
open Go Go.RowKit

theorem Tryz.notFaultE (v : Value) (w : World) : (Instr.typeAssert (.iface 300 v) 45 134 true).run Tryz.prog w = .ok (.tuple #[.pointer none, .bool false]) w := by kernel_rfl
theorem Tryz.notFaultN (w : World) : (Instr.typeAssert .nilIface 45 134 true).run Tryz.prog w = .ok (.tuple #[.pointer none, .bool false]) w := by kernel_rfl
theorem Tryz.isFault (v : Value) (w : World) : (Instr.typeAssert (.iface 134 v) 45 134 true).run Tryz.prog w = .ok (.tuple #[v, .bool true]) w := by kernel_rfl

set_option maxRecDepth 100000 in
theorem treeBare_any {E : Nat → Addr} (er : Er) (ev : Value) (w : World) (h : IsErr E w ev er) :
    Calls Tryz.prog 41 #[ev] w fun e w' => (∃ u, e = .returned u ∧ Hid (IsErr E w' u ⟨er.code, none⟩)) ∧ w = w' := by
  rcases h with ⟨he, rfl⟩ | ⟨k, hk, he, rfl⟩ | ⟨k, a, b, hk, he, rfl, h1, h2⟩
  · have H : Hid (IsErr E w .nilIface ⟨er.code, none⟩) := by show IsErr _ _ _ _; rw [show er.code = 0 by rw [he]]; exact .inl ⟨rfl, rfl⟩
    clear he
    go_enter Tryz.func41, Tryz.ntmps41
    have hna := fun w => Tryz.notFaultN w
    go_wp2_with fail
    go_ret
    exact ⟨⟨_, rfl, H⟩, rfl⟩
  · have H : Hid (IsErr E w (sentV E k) ⟨er.code, none⟩) := by show IsErr _ _ _ _; rw [show er.code = k + 1 by rw [he]]; exact IsErr.base E w k hk
    clear he
    go_enter Tryz.func41, Tryz.ntmps41
    have hna := fun w => Tryz.notFaultE (.pointer (some (E k))) w
    go_wp2_with fail
    go_ret
    exact ⟨⟨_, rfl, H⟩, rfl⟩
  · have H : Hid (IsErr E w (sentV E k) ⟨er.code, none⟩) := by show IsErr _ _ _ _; rw [show er.code = k + 1 by rw [he]]; exact IsErr.base E w k hk
    clear he
    go_enter Tryz.func41, Tryz.ntmps41
    have hna := fun w => Tryz.isFault (.pointer (some ⟨b, 0, none⟩)) w
    go_wp2_with fail
    go_ret
    exact ⟨⟨_, rfl, H⟩, rfl⟩
end Go.Proofs.YtomceddfbfpjjaaGreatDoor

namespace Go.Proofs.YtomceddfbfpjjaaGreatDoor
open Go Go.RowKit Go.Lib

set_option maxHeartbeats 1000000 in
set_option maxRecDepth 100000 in
/-- slices.Clone of files. -/
theorem cloneFiles_any (v : Value) (l : List FileB) (w : World) (hl : l.length ≤ 10000) (hv : FArg w v l) :
    Calls Tryz.prog 79 #[v] w fun e w' => (∃ ov, e = .returned ov ∧ Hid (FOwn w' w.heap.size ov l)) ∧ Below w.heap.size w w' := by
  obtain ⟨i0, hi0, hz0, hz1, hz2⟩ := info_parts Tryz.infoFile
  obtain ⟨⟨ao, cap, rfl, h1, h2, H3⟩, hnil⟩ := hv
  have HM := Lib.hid H3
  have hq : ∀ (W : World) (a : Option Addr) (n c : Nat), (binOp .eql 43 (.slice a n c) (.slice none 0 0)).run Tryz.prog W = .ok (.bool a.isNone) W := fun W a n c => Go.Lib.run_eql_slice_nil W _ _ a n c 0 0 Tryz.underlying43
  clear H3
  cases ao with
  | none =>
    obtain ⟨h0, rfl⟩ := hnil _ _ rfl
    have hl0 : l = [] := List.eq_nil_of_length_eq_zero h0
    subst hl0
    clear HM hnil
    simp only [List.length_nil]
    go_enter Tryz.func79, Tryz.ntmps79
    go_wp2_with fail
    go_ret
    exact ⟨⟨_, rfl, FOwn.nil _ _⟩, Below.refl _ _⟩
  | some ad =>
    clear hnil
    go_enter Tryz.func79, Tryz.ntmps79
    go_wp2_with (at_builtin; refine wpList_append_own _ rfl _ _ 43 rfl w.heap.size 68 i0 (.agg #[.string ⟨#[]⟩, .bool false, .string ⟨#[]⟩]) 3 40 Tryz.underlying43 hi0 hz0 hz1 hz2 rfl (by decide) _ 0 _ rfl (World.ownsRow_made w #[] 0 (Nat.le_refl _) (Nat.zero_le _) rfl) ad l.length cap (l.flatMap encFile) rfl (flatMap_len _ 3 (fun _ => rfl) l) ?c1 ?c2 ?c3 ?c4 ?c5 ?_)
    case c1 =>
      intro j u hj
      have hjl : j < (l.flatMap encFile).length := (List.getElem?_eq_some_iff.1 hj).1
      rw [flatMap_len encFile 3 (fun _ => rfl)] at hjl
      have hi : j / 3 < l.length := by omega
      obtain ⟨b, off, he, hbl, hcell⟩ := HM.out (j / 3) hi
      injection he with he
      subst he
      obtain ⟨q0, q1, q2⟩ := hcell (j / 3) hi
      rw [show j = j / 3 * 3 + j % 3 by omega, flatMap_at encFile 3 (fun _ => rfl) l (j / 3) (j % 3) hi (by omega)] at hj
      have hm : j % 3 = 0 ∨ j % 3 = 1 ∨ j % 3 = 2 := by omega
      rw [Addr.add_lit]
      refine cell?_alloc_some _ ?_
      rcases hm with hm | hm | hm
      · rw [hm] at hj
        have : u = .string l[j / 3].path := by simpa using hj.symm
        rw [this, ← q0]; congr 2; omega
      · rw [hm] at hj
        have : u = .bool l[j / 3].run := by simpa using hj.symm
        rw [this, ← q1]; congr 2; omega
      · rw [hm] at hj
        have : u = .string l[j / 3].text := by simpa using hj.symm
        rw [this, ← q2]; congr 2; omega
    case c2 =>
      intro u hu
      obtain ⟨f, _, hf⟩ := List.mem_flatMap.1 hu
      simp at hf
      rcases hf with rfl | rfl | rfl <;> rfl
    case c3 => rw [maxLen_eq]; omega
    case c4 => omega
    case c5 => simp
    intro v' w' hown hgrow _
    have hb : Below w.heap.size w w' := ((Below.refl _ w).alloc (Nat.le_refl _) _).grown hgrow (by simp) (by intro k hk; simp [Value.ownBlock] at hk; omega)
    have H : Hid (FOwn w' w.heap.size v' l) := by
      show w'.ownsRow _ _ _ _ _ _
      simpa using hown
    clear hown hgrow HM
    go_wp2_with fail
    go_ret
    exact ⟨⟨_, rfl, H⟩, hb⟩
end Go.Proofs.YtomceddfbfpjjaaGreatDoor
