/- chandleryref1.PressOf by its contract. -/
import Derived.Test.YtkglpgbpfngafaaDoorDecimal
namespace Go.Proofs.YtkglpgbpfngafaaDoor
open Go Go.RowKit

/-- With n bytes pending, all equal to the next one. -/
theorem pend_same (s : ByteArray) (k n : Nat) (h : k + 1 < s.size) (he : s[k + 1] = s[k]'(by omega)) :
    List.replicate n (s[k]'(by omega)) ++ (bl s).drop k = List.replicate (n + 1) (s[k + 1]) ++ (bl s).drop (k + 1) := by
  rw [drop_cons s k (by omega), List.replicate_succ', he]; simp
theorem pend_out (s : ByteArray) (k n : Nat) (h : k < s.size) (hr : ((bl s).drop (k + 1)).head? ≠ some s[k]) :
    pressL (List.replicate n s[k] ++ (bl s).drop k) = runText (n + 1, s[k]) ++ pressL ((bl s).drop (k + 1)) := by
  rw [drop_cons s k h, ← pressL_run s[k] _ (n + 1) (by omega) hr, List.replicate_succ']; simp

/-- The loop's relation at place k, n bytes pending, o told so far. -/
def PInv (s : ByteArray) (k n : Nat) (o : List UInt8) : Prop :=
  if h : k < s.size then o ++ pressL (List.replicate n s[k] ++ (bl s).drop k) = pressL (bl s) else n = 0 ∧ o = pressL (bl s)

theorem PInv.start (s : ByteArray) : PInv s 0 0 [] := by
  unfold PInv
  split
  · simp
  · rename_i h
    have : bl s = [] := List.eq_nil_of_length_eq_zero (by rw [bl_length]; omega)
    rw [this]; exact ⟨rfl, rfl⟩
theorem PInv.same {s : ByteArray} {k n : Nat} {o : List UInt8} (hI : PInv s k n o) (h : k + 1 < s.size) (he : s[k + 1] = s[k]'(by omega)) : PInv s (k + 1) (n + 1) o := by
  unfold PInv at hI ⊢
  rw [dif_pos (by omega)] at hI
  rw [dif_pos h, ← pend_same s k n h he]; exact hI
theorem PInv.out {s : ByteArray} {k n : Nat} {o : List UInt8} (hI : PInv s k n o) (h : k < s.size) (hr : ((bl s).drop (k + 1)).head? ≠ some s[k]) : PInv s (k + 1) 0 (o ++ runText (n + 1, s[k])) := by
  unfold PInv at hI ⊢
  rw [dif_pos h, pend_out s k n h hr, ← List.append_assoc] at hI
  split
  · simpa using hI
  · rename_i h2
    rw [drop_nil s (k + 1) (by omega)] at hI
    exact ⟨rfl, by simpa [pressL, grp] using hI⟩
theorem PInv.end {s : ByteArray} {n : Nat} {k : Nat} {o : List UInt8} (hI : PInv s k n o) (h : ¬ k < s.size) : o = pressL (bl s) := by
  unfold PInv at hI
  rw [dif_neg h] at hI; exact hI.2

theorem plen (o t s : ByteArray) (k : Nat) (ho : o.size ≤ 23 * k) (ht : t.size ≤ 21) (hk : k < s.size) : (o ++ t ++ { data := #[58] } ++ s.extract k (k + 1)).size ≤ 23 * (k + 1) := by
  have h1 : (bl o).length ≤ 23 * k := by rw [bl_length]; exact ho
  have h2 : (bl t).length ≤ 21 := by rw [bl_length]; exact ht
  have h3 : (bl (s.extract k (k + 1))).length = 1 := by rw [bl_one s k hk]; rfl
  have h4 : (bl { data := #[58] }).length = 1 := rfl
  rw [← bl_length, bl_append, bl_append, bl_append]
  simp only [List.length_append]
  omega

set_option maxHeartbeats 1000000 in
set_option maxRecDepth 100000 in
theorem pressOf_any (s : ByteArray) (w : World) (hs : s.size ≤ 1073741824) :
    Calls Tryd.prog 19 #[.string s] w fun e w' => ∃ t : ByteArray, e = .returned (.string t) ∧ Hid (bl t = pressL (bl s)) ∧ Below w.heap.size w w' := by
  go_enter Tryd.func19, Tryd.ntmps19
  go_wp2_with fail
  go_loopw [3, 4, 5, 6] (fun ov nv i _x wr => ∃ (k n : Nat) (o : ByteArray), k ≤ s.size ∧ n ≤ k ∧ i = .int .i64 k ∧ nv = .int .i64 n ∧ ov = .string o ∧ o.size ≤ 23 * k ∧ Hid (PInv s k n (bl o)) ∧ Below w.heap.size w wr) (fun _ _ i _ _ => s.size - (intOf i).toNat)
  case atStart => exact ⟨0, 0, ⟨#[]⟩, Nat.zero_le _, Nat.zero_le _, rfl, rfl, rfl, by decide, PInv.start s, Below.refl _ _⟩
  case round =>
    obtain ⟨k, n, o, hk, hn, rfl, rfl, rfl, ho, HI, hb⟩ := hrel
    by_cases hlt : k < s.size
    · have ek : IntKind.i64.wrap ((k : Int) + 1) = (k : Int) + 1 := IntWalk.i64_in _ (by omega)
      by_cases hcont : ∃ h : k + 1 < s.size, s[k + 1] = s[k]
      · obtain ⟨h2, heq⟩ := hcont
        have HI2 := Lib.hid (HI.out.same h2 heq)
        have e3 : ∀ W : World, (Instr.index 9 (.string s) (.int .i64 ((k : Int) + 1))).run Tryd.prog W = .ok (.int .u8 s[k + 1].toNat) W := index_nat s _ (k + 1) h2 (by omega)
        have hc : ((s[k + 1].toNat : Int) == s[k].toNat) = true := by rw [heq]; simp
        clear HI
        go_wp2_with fail
        go_quiet (fail)
        clear e3 hc ek
        go_wp2_with fail
        go_roundw
        case rel => exact ⟨k + 1, n + 1, o, by omega, by omega, by go_num, by go_num, rfl, by omega, HI2, hb.trans (below_drewN _ _ _)⟩
        case measure => simp [intOf]; omega
      · have hrest : ((bl s).drop (k + 1)).head? ≠ some s[k] := by
          intro h
          by_cases h2 : k + 1 < s.size
          · rw [drop_cons s _ h2] at h
            exact hcont ⟨h2, by simpa using h⟩
          · rw [drop_nil s _ (by omega)] at h; cases h
        have HI2 := Lib.hid (HI.out.out hlt hrest)
        have HO := Lib.hid (bl_one s k hlt)
        have sl : ∀ W : World, (Instr.slice 9 (.string s) (some (.int .i64 (k : Int))) (some (.int .i64 ((k : Int) + 1))) none).run Tryd.prog W = .ok (.string (s.extract k (k + 1))) W := slice_nat s _ _ k (k + 1) (by omega) (by omega) rfl (by omega)
        have en : IntKind.i64.wrap ((n : Int) + 1) = (n : Int) + 1 := IntWalk.i64_in _ (by omega)
        clear HI hrest
        by_cases h2 : k + 1 < s.size
        · have e3 : ∀ W : World, (Instr.index 9 (.string s) (.int .i64 ((k : Int) + 1))).run Tryd.prog W = .ok (.int .u8 s[k + 1].toNat) W := index_nat s _ (k + 1) h2 (by omega)
          have hc : ((s[k + 1].toNat : Int) == s[k].toNat) = false := by
            rw [beq_eq_false_iff_ne]
            intro h
            exact hcont ⟨h2, UInt8.toNat_inj.1 (by omega)⟩
          clear hcont
          go_wp2_with fail
          go_quiet (fail)
          clear e3 hc
          go_wp2_with fail
          go_region_with (go_at_call 56; refine ((decimal_any (n + 1) (by omega) _)).mono ?_; rintro e w2 ⟨t, rfl, HTX, hts, hb2⟩)
          have hl := plen o t s k ho hts hlt
          have HN : Hid (bl (o ++ t ++ { data := #[58] } ++ s.extract k (k + 1)) = bl o ++ runText (n + 1, s[k])) := by
            show _ = _
            rw [bl_append, bl_append, bl_append, HTX.out, HO.out]; simp [runText]; rfl
          have hb3 : Below w.heap.size w w2 := hb.trans ((below_drewN _ _ _).trans (hb2.mono (by exact hb.size)))
          clear sl en ek HO HTX hb2
          go_wp2_with fail
          go_roundw
          case rel => exact ⟨k + 1, 0, _, by omega, by omega, by go_num, rfl, rfl, hl, by rw [HN.out]; exact HI2, hb3⟩
          case measure => simp [intOf]; omega
        · clear hcont
          go_wp2_with fail
          go_region_with (go_at_call 56; refine ((decimal_any (n + 1) (by omega) _)).mono ?_; rintro e w2 ⟨t, rfl, HTX, hts, hb2⟩)
          have hl := plen o t s k ho hts hlt
          have HN : Hid (bl (o ++ t ++ { data := #[58] } ++ s.extract k (k + 1)) = bl o ++ runText (n + 1, s[k])) := by
            show _ = _
            rw [bl_append, bl_append, bl_append, HTX.out, HO.out]; simp [runText]; rfl
          have hb3 : Below w.heap.size w w2 := hb.trans ((below_drewN _ _ _).trans (hb2.mono (by exact hb.size)))
          clear sl en ek HO HTX hb2
          go_wp2_with fail
          go_roundw
          case rel => exact ⟨k + 1, 0, _, by omega, by omega, by go_num, rfl, rfl, hl, by rw [HN.out]; exact HI2, hb3⟩
          case measure => simp [intOf]; omega
    · have HE := Lib.hid (HI.out.end hlt)
      clear HI
      go_wp2_with fail
      go_ret
      exact ⟨o, rfl, HE.out, hb⟩
end Go.Proofs.YtkglpgbpfngafaaDoor
