/- The reference's IsPart, PartsOf, PathError, InTexts by their contracts. -/
import Derived.Test.YtpafddeakanopaaGreatDoorRefCut
namespace Go.Proofs.YtpafddeakanopaaGreatDoor
open Go Go.RowKit

def okN (x : Nat) : Prop := (97 ≤ x ∧ x ≤ 122) ∨ (48 ≤ x ∧ x ≤ 57) ∨ x = 46 ∨ x = 95 ∨ x = 45
instance (x : Nat) : Decidable (okN x) := by unfold okN; infer_instance
theorem okN_all : ∀ x, x < 256 → (okB (UInt8.ofNat x) = decide (okN x)) := by decide +kernel
theorem okB_iff (c : UInt8) : okB c = decide (okN c.toNat) := by
  have := okN_all c.toNat c.toNat_lt
  rwa [UInt8.ofNat_toNat] at this

theorem take_all {p : UInt8 → Bool} {s : ByteArray} {k : Nat} (h : ∀ j, (hj : j < s.size) → j < k → p s[j] = true) (hk : k = s.size) : (bl s).all p = true := by
  refine List.all_eq_true.2 fun x hx => ?_
  obtain ⟨j, hj, rfl⟩ := List.getElem_of_mem hx
  have hj2 : j < s.size := by rw [← bl_length]; exact hj
  exact h j hj2 (by omega)
theorem part_bad {s : ByteArray} {k : Nat} (hk : k < s.size) (h : okB s[k] = false) : partB (bl s) = false := by
  unfold partB
  have : (bl s).all okB = false := List.all_eq_false.2 ⟨s[k], List.getElem_mem (by rw [bl_length]; exact hk), by rw [h]; decide⟩
  rw [this]; simp

set_option maxHeartbeats 2000000 in
set_option maxRecDepth 100000 in
theorem refIsPart_any (s : ByteArray) (w : World) (hs : s.size ≤ 1000000) :
    Calls Tryz.prog 43 #[.string s] w fun e w' => e = .returned (.bool (partB (bl s))) ∧ Below w.heap.size w w' := by
  go_enter Tryz.func43, Tryz.ntmps43
  go_wp2_with fail
  go_loopw [3] (fun i wr => ∃ k : Nat, k ≤ s.size ∧ i = .int .i64 k ∧ Hid (∀ j, (hj : j < s.size) → j < k → okB s[j] = true) ∧ Below w.heap.size w wr) (fun i _ => s.size - (intOf i).toNat)
  case atStart => exact ⟨0, Nat.zero_le _, rfl, fun j _ h => absurd h (Nat.not_lt_zero _), Below.refl _ _⟩
  case round =>
    obtain ⟨k, hk, rfl, HA, hb⟩ := hrel
    by_cases hlt : k < s.size
    · have ix : ∀ W : World, (Instr.index 9 (.string s) (.int .i64 (k : Int))).run Tryz.prog W = .ok (.int .u8 s[k].toNat) W := index_nat s k k hlt rfl
      have HO := Lib.hid (okB_iff s[k])
      have HB := Lib.hid (fun h : okB s[k] = false => part_bad hlt h)
      have HN : Hid (okB s[k] = true → ∀ j, (hj : j < s.size) → j < k + 1 → okB s[j] = true) := fun h j hj hj2 => by
        by_cases e : j = k
        · subst e; exact h
        · exact HA.out j hj (by omega)
      have hx := s[k].toNat_lt
      generalize s[k] = y at *
      generalize y.toNat = x at *
      clear HA
      go_wp2_with fail
      all_goals first
        | (go_ret
           have okx : ¬ okN x := by
             clear HO HB HN ix
             unfold okN
             first | omega | (simp at *; omega)
           exact ⟨by rw [HB.out (by rw [HO.out, decide_eq_false okx])]; rfl, hb⟩)
        | (have okx : okN x := by
             clear HO HB HN ix
             unfold okN
             first | omega | (simp at *; omega)
           exact ⟨⟨k + 1, by omega, by go_num, HN.out (by rw [HO.out, decide_eq_true okx]), hb⟩, by simp [intOf]; omega⟩)
    · have hkk : k = s.size := by omega
      have HT := Lib.hid (take_all HA.out hkk)
      subst hkk
      clear HA
      by_cases h0 : 1 ≤ s.size
      · by_cases h12 : s.size ≤ 12
        · have g1 : ((bl s) == []) = false := by rw [beq_eq_false_iff_ne]; intro h; have := bl_length s; rw [h] at this; simp at this; omega
          have HP : Hid (partB (bl s) = ((!(s.toList == [46])) && (!(s.toList == [46, 46])))) := by
            show _ = _
            have e : decide ((bl s).length ≤ 12) = true := by rw [bl_length]; exact decide_eq_true h12
            unfold partB
            rw [g1, e, HT.out, toList_bl]; simp
          clear g1 HT
          cases q1 : (s.toList == [46])
          · cases q2 : (s.toList == [46, 46])
            · rw [q1, q2] at HP
              go_wp2_with fail
              go_ret
              exact ⟨by rw [HP.out]; rfl, hb⟩
            · rw [q1, q2] at HP
              go_wp2_with fail
              go_ret
              exact ⟨by rw [HP.out]; rfl, hb⟩
          · rw [q1] at HP
            go_wp2_with fail
            go_ret
            exact ⟨by rw [HP.out]; rfl, hb⟩
        · have HP : Hid (partB (bl s) = false) := by
            show _ = _
            have e : decide ((bl s).length ≤ 12) = false := by rw [bl_length]; exact decide_eq_false h12
            unfold partB
            rw [e]; simp
          go_wp2_with fail
          go_ret
          exact ⟨by rw [HP.out]; rfl, hb⟩
      · have HP : Hid (partB (bl s) = false) := by
          show _ = _
          have e : bl s = [] := List.eq_nil_of_length_eq_zero (by rw [bl_length]; omega)
          rw [e]; rfl
        go_wp2_with fail
        go_ret
        exact ⟨by rw [HP.out]; rfl, hb⟩
end Go.Proofs.YtpafddeakanopaaGreatDoor
