/- The reference's InTexts, PartsOf, PathError by their contracts. -/
import Derived.Test.YtpafddeakanopaaGreatDoorRefPart
namespace Go.Proofs.YtpafddeakanopaaGreatDoor
open Go Go.RowKit

theorem contains_take {zs : List ByteArray} {s : ByteArray} (h : ∀ j, (hj : j < zs.length) → zs[j].toList ≠ s.toList) : (zs.map bl).contains (bl s) = false := by
  rw [← Bool.not_eq_true, List.contains_iff_mem]
  intro hm
  obtain ⟨z, hz, e⟩ := List.mem_map.1 hm
  obtain ⟨j, hj, rfl⟩ := List.getElem_of_mem hz
  exact h j hj (by rw [toList_bl, toList_bl]; exact e)
theorem contains_at {zs : List ByteArray} {s : ByteArray} {j : Nat} (hj : j < zs.length) (h : zs[j].toList = s.toList) : (zs.map bl).contains (bl s) = true := by
  rw [List.contains_iff_mem]
  exact List.mem_map.2 ⟨zs[j], List.getElem_mem hj, by rw [toList_bl, toList_bl] at h; exact h⟩

set_option maxHeartbeats 400000 in
set_option maxRecDepth 100000 in
theorem refInTexts_any {w : World} {v : Value} {zs : List ByteArray} (s : ByteArray) (hv : Row encStr 1 w v zs) (hz : zs.length ≤ 1000000) :
    Calls Tryz.prog 25 #[.string s, v] w fun e w' => e = .returned (.bool ((zs.map bl).contains (bl s))) ∧ Below w.heap.size w w' := by
  obtain ⟨ao, cap, rfl, h1, h2, H3⟩ := hv.parts
  have HM := Lib.hid H3
  clear H3 hv
  go_enter Tryz.func25, Tryz.ntmps25
  go_wp2_with fail
  go_loopw [5] (fun i w1 => ∃ k : Nat, k ≤ zs.length ∧ i = .int .i64 k ∧ Hid (∀ j, (hj : j < zs.length) → j < k → zs[j].toList ≠ s.toList) ∧ Below w.heap.size w w1) (fun i _ => zs.length - (intOf i).toNat)
  case atStart => exact ⟨0, Nat.zero_le _, rfl, fun j _ h => absurd h (Nat.not_lt_zero _), Below.refl _ _⟩
  case round =>
    obtain ⟨k, hk, rfl, HA, hb⟩ := hrel
    by_cases hlt : k < zs.length
    · obtain ⟨b, off, rfl, hbl, hcell⟩ := HM.out k hlt
      have c := hcell k hlt
      rw [← hb.cell (p := ⟨b, off + k, none⟩) hbl] at c
      clear hcell
      cases hx : (zs[k].toList == s.toList) with
      | true =>
        have HT : Hid ((zs.map bl).contains (bl s) = true) := contains_at hlt (beq_iff_eq.1 hx)
        clear HA
        go_wp2_with fail
        go_ret
        exact ⟨by rw [HT.out]; rfl, hb⟩
      | false =>
        have HN : Hid (∀ j, (hj : j < zs.length) → j < k + 1 → zs[j].toList ≠ s.toList) := fun j hj hj2 => by
          by_cases e : j = k
          · subst e; exact beq_eq_false_iff_ne.1 hx
          · exact HA.out j hj (by omega)
        clear HA
        go_wp2_with fail
        go_roundw
        case rel => exact ⟨k + 1, by omega, by go_num, HN, hb⟩
        case measure => simp [intOf]; omega
    · have HF : Hid ((zs.map bl).contains (bl s) = false) := contains_take fun j hj => HA.out j hj (by omega)
      clear HA
      go_wp2_with fail
      go_ret
      exact ⟨by rw [HF.out]; rfl, hb⟩

/-- What the reference's PartsOf hands back: the pieces, or none; and the error's number. -/
def RefPartsPost (s : ByteArray) (w : World) (e : Ending) (w' : World) : Prop :=
  ∃ (v : Value) (zs : List ByteArray), e = .returned (.tuple #[v, .int .i64 (partsE (bl s))]) ∧ Hid (Row encStr 1 w' v zs) ∧ Hid (zs.map bl = if partsE (bl s) = 0 then cutL 47 (bl s) else []) ∧ zs.length ≤ s.size + 1 ∧ Below w.heap.size w w'

set_option maxHeartbeats 400000 in
set_option maxRecDepth 100000 in
theorem refPartsOf_any (s : ByteArray) (w : World) (hs : s.size ≤ 100000) : Calls Tryz.prog 44 #[.string s] w (RefPartsPost s w) := by
  have C := Lib.hid (refCut_any s 47 w (by omega))
  go_enter Tryz.func44, Tryz.ntmps44
  go_wp2_with fail
  refine C.out.mono ?_
  clear C
  rintro e w1 ⟨v, zs, rfl, HR, HZ, hl, hb1⟩
  obtain ⟨ao, cap, rfl, h1, h2, H3⟩ := HR.out.parts
  have HM := Lib.hid H3
  have HS : Hid (∀ z ∈ zs, z.size ≤ s.size) := fun z hz => by
    have h : bl z ∈ cutL 47 (bl s) := by rw [← HZ.out]; exact List.mem_map.2 ⟨z, hz, rfl⟩
    have := cutL_size 47 (bl s) _ h
    rwa [bl_length, bl_length] at this
  have HL : Hid (zs.length = (cutL 47 (bl s)).length) := by show _ = _; rw [← HZ.out, List.length_map]
  clear H3
  go_wp2_with fail
  go_loopw [5] (fun i w2 => ∃ k : Nat, k ≤ zs.length ∧ i = .int .i64 k ∧ Hid (∀ j, (hj : j < zs.length) → j < k → partB (bl zs[j]) = true) ∧ Below w1.heap.size w1 w2) (fun i _ => zs.length - (intOf i).toNat)
  case atStart => exact ⟨0, Nat.zero_le _, rfl, fun j _ h => absurd h (Nat.not_lt_zero _), Below.refl _ _⟩
  case round =>
    obtain ⟨k, hk, rfl, HA, hb⟩ := hrel
    by_cases hlt : k < zs.length
    · obtain ⟨b, off, rfl, hbl, hcell⟩ := HM.out k hlt
      have c := hcell k hlt
      rw [← hb.cell (p := ⟨b, off + k, none⟩) hbl] at c
      have sz := HS.out zs[k] (List.getElem_mem hlt)
      clear hcell
      have HY := Lib.hid (show zs[k] = zs[k] from rfl)
      generalize hy : zs[k] = y at c sz
      have HZ2 := Lib.hid hy
      clear hy HY
      go_wp2_with fail
      refine (refIsPart_any y _ (by omega)).mono ?_
      rintro e w3 ⟨rfl, hb3⟩
      have hbb := hb.trans (hb3.mono hb.size)
      cases hp : partB (bl y) with
      | true =>
        have HN : Hid (∀ j, (hj : j < zs.length) → j < k + 1 → partB (bl zs[j]) = true) := fun j hj hj2 => by
          by_cases e : j = k
          · subst e; rw [HZ2.out]; exact hp
          · exact HA.out j hj (by omega)
        clear HA hp HZ2
        go_wp2_with fail
        go_roundw
        case rel => exact ⟨k + 1, by omega, by go_num, HN, hbb⟩
        case measure => simp [intOf]; omega
      | false =>
        have HF : Hid (partsE (bl s) = 5) := by
          show _ = _
          unfold partsE
          rw [if_neg]
          rw [← HZ.out, List.all_map, Bool.not_eq_true]
          refine List.all_eq_false.2 ⟨zs[k], List.getElem_mem hlt, ?_⟩
          show ¬ partB (bl zs[k]) = true
          rw [HZ2.out, hp]; decide
        clear HA hp HZ2
        go_wp2_with fail
        go_ret2
        exact ⟨.slice none 0 0, [], by rw [HF.out]; rfl, Row.nil _ _ _, by show _ = _; rw [HF.out]; rfl, Nat.zero_le _, hb1.trans (hbb.mono hb1.size)⟩
    · have HT : Hid ((cutL 47 (bl s)).all partB = true) := by
        show _ = _
        rw [← HZ.out, List.all_map]
        refine List.all_eq_true.2 fun x hx => ?_
        obtain ⟨j, hj, rfl⟩ := List.getElem_of_mem hx
        exact HA.out j hj (by omega)
      clear HA
      by_cases h6 : zs.length ≤ 6
      · have HF : Hid (partsE (bl s) = 0) := by
          show _ = _
          unfold partsE; rw [HT.out, if_pos rfl, if_neg (by rw [← HL.out]; omega)]
        go_wp2_with fail
        go_ret2
        exact ⟨_, zs, by rw [HF.out]; rfl, HR.out.ext hb, by show _ = _; rw [HF.out, if_pos rfl]; exact HZ.out, hl, hb1.trans (hb.mono hb1.size)⟩
      · have HF : Hid (partsE (bl s) = 8) := by
          show _ = _
          unfold partsE; rw [HT.out, if_pos rfl, if_pos (by rw [← HL.out]; omega)]
        go_wp2_with fail
        go_ret2
        exact ⟨.slice none 0 0, [], by rw [HF.out]; rfl, Row.nil _ _ _, by show _ = _; rw [HF.out]; rfl, Nat.zero_le _, hb1.trans (hb.mono hb1.size)⟩

set_option maxRecDepth 100000 in
theorem refPathError_any (s : ByteArray) (w : World) (hs : s.size ≤ 100000) : Calls Tryz.prog 30 #[.string s] w fun e w' => e = .returned (.int .i64 (partsE (bl s))) ∧ Below w.heap.size w w' := by
  have C := Lib.hid (refPartsOf_any s w hs)
  go_enter Tryz.func30, Tryz.ntmps30
  go_wp2_with fail
  refine C.out.mono ?_
  clear C
  rintro e w1 ⟨v, zs, rfl, HR, HZ, hl, hb⟩
  go_wp2_with fail
  go_ret
  exact ⟨rfl, hb⟩
end Go.Proofs.YtpafddeakanopaaGreatDoor
