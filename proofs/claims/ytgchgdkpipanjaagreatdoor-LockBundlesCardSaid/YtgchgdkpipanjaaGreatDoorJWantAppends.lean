/- slices.Clone of wants: the contract. -/
import Derived.Test.YtgchgdkpipanjaaGreatDoorJWantAll
import Derived.Laws.NewBlocks
import Derived.Lib.SliceRun
namespace Go.Proofs.YtgchgdkpipanjaaGreatDoor
open Go Go.RowKit Go.Lib

set_option maxHeartbeats 1000000 in
set_option maxRecDepth 100000 in
/-- slices.Clone of wants. -/
theorem cloneWants_any (v : Value) (l : List WantB) (w : World) (hl : l.length ≤ 10000) (hv : WArg w v l) :
    Calls Tryz.prog 52 #[v] w fun e w' => (∃ ov, e = .returned ov ∧ Hid (WOwn w' w.heap.size ov l)) ∧ Below w.heap.size w w' := by
  obtain ⟨i0, hi0, hz0, hz1, hz2⟩ := info_parts Tryz.infoWant
  obtain ⟨⟨ao, cap, rfl, h1, h2, H3⟩, hnil⟩ := hv
  have HM := Lib.hid H3
  have hq : ∀ (W : World) (a : Option Addr) (n c : Nat), (binOp .eql 22 (.slice a n c) (.slice none 0 0)).run Tryz.prog W = .ok (.bool a.isNone) W := fun W a n c => Go.Lib.run_eql_slice_nil W _ _ a n c 0 0 Tryz.underlying22
  clear H3
  cases ao with
  | none =>
    obtain ⟨h0, rfl⟩ := hnil _ _ rfl
    have hl0 : l = [] := List.eq_nil_of_length_eq_zero h0
    subst hl0
    clear HM hnil
    simp only [List.length_nil]
    go_enter Tryz.func52, Tryz.ntmps52
    go_wp2_with fail
    go_ret
    exact ⟨⟨_, rfl, WOwn.nil _ _⟩, Below.refl _ _⟩
  | some ad =>
    clear hnil
    go_enter Tryz.func52, Tryz.ntmps52
    go_wp2_with (at_builtin; refine wpList_append_own _ rfl _ _ 22 rfl w.heap.size 41 i0 (.agg #[.string ⟨#[]⟩, .string ⟨#[]⟩, .string ⟨#[]⟩, .int .i64 0, .int .i64 0]) 5 64 Tryz.underlying22 hi0 hz0 hz1 hz2 rfl (by decide) _ 0 _ rfl (World.ownsRow_made w #[] 0 (Nat.le_refl _) (Nat.zero_le _) rfl) ad l.length cap (l.flatMap encW) rfl (flatMap_len _ 5 (fun _ => rfl) l) ?c1 ?c2 ?c3 ?c4 ?c5 ?_)
    case c1 =>
      intro j u hj
      have hjl : j < (l.flatMap encW).length := (List.getElem?_eq_some_iff.1 hj).1
      rw [flatMap_len encW 5 (fun _ => rfl)] at hjl
      have hi : j / 5 < l.length := by omega
      obtain ⟨b, off, he, hbl, hcell⟩ := HM.out (j / 5) hi
      injection he with he
      subst he
      obtain ⟨q0, q1, q2, q3, q4⟩ := hcell (j / 5) hi
      rw [show j = j / 5 * 5 + j % 5 by omega, flatMap_at encW 5 (fun _ => rfl) l (j / 5) (j % 5) hi (by omega)] at hj
      have hm : j % 5 = 0 ∨ j % 5 = 1 ∨ j % 5 = 2 ∨ j % 5 = 3 ∨ j % 5 = 4 := by omega
      rw [Addr.add_lit]
      refine cell?_alloc_some _ ?_
      rcases hm with hm | hm | hm | hm | hm
      · rw [hm] at hj
        have : u = .string l[j / 5].name := by simpa using hj.symm
        rw [this, ← q0]; congr 2; omega
      · rw [hm] at hj
        have : u = .string l[j / 5].url := by simpa using hj.symm
        rw [this, ← q1]; congr 2; omega
      · rw [hm] at hj
        have : u = .string l[j / 5].kind := by simpa using hj.symm
        rw [this, ← q2]; congr 2; omega
      · rw [hm] at hj
        have : u = .int .i64 l[j / 5].strip := by simpa using hj.symm
        rw [this, ← q3]; congr 2; omega
      · rw [hm] at hj
        have : u = .int .i64 l[j / 5].sum := by simpa using hj.symm
        rw [this, ← q4]; congr 2; omega
    case c2 =>
      intro u hu
      obtain ⟨f, _, hf⟩ := List.mem_flatMap.1 hu
      simp at hf
      rcases hf with rfl | rfl | rfl | rfl | rfl <;> rfl
    case c3 => rw [maxLen_eq]; omega
    case c4 => omega
    case c5 => simp
    intro v' w' hown hgrow _
    have hb : Below w.heap.size w w' := ((Below.refl _ w).alloc (Nat.le_refl _) _).grown hgrow (by simp) (by intro k hk; simp [Value.ownBlock] at hk; omega)
    have H : Hid (WOwn w' w.heap.size v' l) := by
      show w'.ownsRow _ _ _ _ _ _
      simpa using hown
    clear hown hgrow HM
    go_wp2_with fail
    go_ret
    exact ⟨⟨_, rfl, H⟩, hb⟩
set_option maxHeartbeats 1000000 in
set_option maxRecDepth 100000 in
theorem ownWants_any (v : Value) (l : List WantB) (w : World) (hl : l.length ≤ 1000) (hv : WArg w v l) :
    Calls Tryz.prog 14 #[v] w fun e w' => (∃ ov, e = .returned ov ∧ Hid (WOwn w' w.heap.size ov l)) ∧ Below w.heap.size w w' := by
  obtain ⟨i0, hi0, hz0, hz1, hz2⟩ := info_parts Tryz.infoWant
  obtain ⟨⟨ao, cap, rfl, h1, h2, H3⟩, hnil⟩ := hv
  have HM := Lib.hid H3
  clear H3
  cases ao with
  | none =>
    obtain ⟨h0, rfl⟩ := hnil _ _ rfl
    have hl0 : l = [] := List.eq_nil_of_length_eq_zero h0
    subst hl0
    clear HM hnil
    simp only [List.length_nil]
    go_enter Tryz.func14, Tryz.ntmps14
    go_wp2_with (at_builtin; refine wpList_append_own_none rfl _ _ 22 rfl w.heap.size 41 i0 5 Tryz.underlying22 hi0 (.slice none 0 0) 0 [] rfl (World.ownsRow_nil _ _ _ _) rfl ?_)
    go_ret
    exact ⟨⟨_, rfl, WOwn.nil _ _⟩, Below.refl _ _⟩
  | some ad =>
    clear hnil
    go_enter Tryz.func14, Tryz.ntmps14
    go_wp2_with (at_builtin; refine wpList_append_own _ rfl _ _ 22 rfl w.heap.size 41 i0 (.agg #[.string ⟨#[]⟩, .string ⟨#[]⟩, .string ⟨#[]⟩, .int .i64 0, .int .i64 0]) 5 64 Tryz.underlying22 hi0 hz0 hz1 hz2 rfl (by decide) (.slice none 0 0) 0 [] rfl (World.ownsRow_nil _ _ _ _) ad l.length cap (l.flatMap encW) rfl (flatMap_len _ 5 (fun _ => rfl) l) ?c1 ?c2 ?c3 ?c4 ?c5 ?_)
    case c1 =>
      intro j u hj
      have hjl : j < (l.flatMap encW).length := (List.getElem?_eq_some_iff.1 hj).1
      rw [flatMap_len encW 5 (fun _ => rfl)] at hjl
      have hi : j / 5 < l.length := by omega
      obtain ⟨b, off, he, hbl, hcell⟩ := HM.out (j / 5) hi
      injection he with he
      subst he
      obtain ⟨q0, q1, q2, q3, q4⟩ := hcell (j / 5) hi
      rw [show j = j / 5 * 5 + j % 5 by omega, flatMap_at encW 5 (fun _ => rfl) l (j / 5) (j % 5) hi (by omega)] at hj
      have hm : j % 5 = 0 ∨ j % 5 = 1 ∨ j % 5 = 2 ∨ j % 5 = 3 ∨ j % 5 = 4 := by omega
      show w.cell? (Addr.add ⟨b, off, none⟩ j) = some u
      rw [Addr.add_lit]
      rcases hm with hm | hm | hm | hm | hm
      · rw [hm] at hj
        have : u = .string l[j / 5].name := by simpa using hj.symm
        rw [this, ← q0]; congr 2; omega
      · rw [hm] at hj
        have : u = .string l[j / 5].url := by simpa using hj.symm
        rw [this, ← q1]; congr 2; omega
      · rw [hm] at hj
        have : u = .string l[j / 5].kind := by simpa using hj.symm
        rw [this, ← q2]; congr 2; omega
      · rw [hm] at hj
        have : u = .int .i64 l[j / 5].strip := by simpa using hj.symm
        rw [this, ← q3]; congr 2; omega
      · rw [hm] at hj
        have : u = .int .i64 l[j / 5].sum := by simpa using hj.symm
        rw [this, ← q4]; congr 2; omega
    case c2 =>
      intro u hu
      obtain ⟨f, _, hf⟩ := List.mem_flatMap.1 hu
      simp at hf
      rcases hf with rfl | rfl | rfl | rfl | rfl <;> rfl
    case c3 => rw [maxLen_eq]; omega
    case c4 => omega
    case c5 => exact Nat.le_refl _
    intro v' w' hown hgrow _
    have hb : Below w.heap.size w w' := (Below.refl _ _).grown hgrow (Nat.le_refl _) (fun r e => by cases e)
    have H : Hid (WOwn w' w.heap.size v' l) := by
      show w'.ownsRow _ _ _ _ _ _
      simpa using hown
    clear hown hgrow HM
    go_wp2_with fail
    go_ret
    exact ⟨⟨_, rfl, H⟩, hb⟩
end Go.Proofs.YtgchgdkpipanjaaGreatDoor
