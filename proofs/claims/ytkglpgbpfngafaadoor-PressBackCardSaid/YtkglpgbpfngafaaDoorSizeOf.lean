/- chandleryref1.SizeOf, Bare by their contracts. -/
import Derived.Test.YtkglpgbpfngafaaDoorRunsOf
import Derived.Deep.QuietTactic
import Derived.BigQuiet
namespace Go.Proofs.YtkglpgbpfngafaaDoor
open Go Go.RowKit

theorem Row.parts2 {w : World} {v : Value} {l : List (Nat × UInt8)} (h : Row encRun 2 w v l) :
    ∃ ao cap, v = .slice ao l.length cap ∧ l.length ≤ cap ∧ cap ≤ maxLen ∧ (∀ i, (hi : i < l.length) → ∃ b off, ao = some ⟨b, off, none⟩ ∧ b < w.heap.size ∧
      ∀ k, (hk : k < l.length) → w.cell? ⟨b, off + k * 2, none⟩ = some (.int .i64 l[k].1) ∧ w.cell? ⟨b, off + k * 2 + 1, none⟩ = some (.int .u8 l[k].2.toNat)) := by
  rcases h with ⟨rfl, rfl⟩ | ⟨b, off, cap, rfl, h1, h2, h3, h4⟩
  · exact ⟨none, 0, rfl, Nat.le_refl _, Nat.zero_le _, fun i hi => absurd hi (Nat.not_lt_zero _)⟩
  · exact ⟨some ⟨b, off, none⟩, cap, rfl, h1, h2, fun i hi => ⟨b, off, rfl, h3, fun k hk => ⟨by simpa using h4 k hk 0 (by decide), by simpa using h4 k hk 1 (by decide)⟩⟩⟩

theorem sumR_take (l : List (Nat × UInt8)) (k : Nat) (h : k < l.length) : sumR (l.take (k + 1)) = sumR (l.take k) + l[k].1 := by
  rw [List.take_succ_eq_append_getElem h, sumR_append]; simp [sumR]
theorem sumR_take_le (l : List (Nat × UInt8)) (k : Nat) : sumR (l.take k) ≤ sumR l := by
  have h : sumR (l.take k ++ l.drop k) = sumR l := by rw [List.take_append_drop]
  rw [sumR_append] at h; omega

set_option maxHeartbeats 400000 in
theorem sizeOf_any {w : World} {v : Value} {l : List (Nat × UInt8)} (hv : Row encRun 2 w v l) (hs : sumR l ≤ 4611686018427387904) :
    Calls Tryd.prog 22 #[v] w fun e w' => e = .returned (.int .i64 (sumR l : Nat)) ∧ Below w.heap.size w w' := by
  obtain ⟨ao, cap, rfl, h1, h2, H3⟩ := hv.parts2
  have hl : l.length ≤ 9223372036854775807 := by rw [maxLen_eq] at h2; omega
  have HM := Lib.hid H3
  clear hv h1 h2 H3
  go_enter Tryd.func22, Tryd.ntmps22
  go_wp2_with fail
  go_loopw [3, 4] (fun n i wr => ∃ k m : Nat, k ≤ l.length ∧ i = .int .i64 k ∧ n = .int .i64 m ∧ Hid (m = sumR (l.take k)) ∧ Below w.heap.size w wr) (fun _ i _ => l.length - (intOf i).toNat)
  case atStart => exact ⟨0, 0, Nat.zero_le _, rfl, rfl, rfl, Below.refl _ _⟩
  case round =>
    obtain ⟨k, m, hk, rfl, rfl, Hm, hb⟩ := hrel
    by_cases hlt : k < l.length
    · obtain ⟨b, off, rfl, hbl, hcell⟩ := HM.out k hlt
      have c := (hcell k hlt).1
      rw [← hb.cell (p := ⟨b, off + k * 2, none⟩) hbl] at c
      have h4 := sumR_take_le l (k + 1)
      have h5 := sumR_take l k hlt
      have h6 : m + l[k].1 ≤ 4611686018427387904 := by have := Hm.out; omega
      have H5 : Hid (m + l[k].1 = sumR (l.take (k + 1))) := by show _ = _; rw [h5, ← Hm.out]
      clear hcell h4 h5 Hm
      generalize hx : l[k].1 = x at c h6 H5
      clear hx
      go_wp2_with fail
      go_roundw
      case rel => exact ⟨k + 1, m + x, by omega, by go_num, by go_num, H5.out, hb⟩
      case measure => simp [intOf]; omega
    · have hf : Hid (m = sumR l) := by
        have := Hm.out
        rw [List.take_of_length_le (by omega)] at this; exact this
      go_wp2_with fail
      go_ret
      have e : m = sumR l := hf.out
      subst e
      exact ⟨rfl, hb⟩

theorem bare_any (c : Int) (w : World) : Calls Tryd.prog 58 #[.int .i64 c] w fun e w' => e = .returned (faultV c (-1)) ∧ Below w.heap.size w w' := by
  go_enter Tryd.func58, Tryd.ntmps58
  go_wp2
  refine bodyPost_ret (v := faultV c (-1)) (by simp [results, Tryd.results58, go_sem]) rfl ⟨rfl, (Below.refl _ _).alloc (Nat.le_refl _) _⟩
end Go.Proofs.YtkglpgbpfngafaaDoor
