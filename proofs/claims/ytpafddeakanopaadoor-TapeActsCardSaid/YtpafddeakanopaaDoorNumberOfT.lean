/- The reference's NumberOf, JoinSums, SumText, ReadSum by their contracts. -/
import Derived.Test.YtpafddeakanopaaDoorNumPlain
import Derived.Test.YtpafddeakanopaaDoorStr
import Derived.Test.YtpafddeakanopaaDoorRow
import Derived.IntWalk
import Derived.Deep.RegionWith
namespace Go.Proofs.YtpafddeakanopaaDoor
open Go Go.RowKit

def numI (o : Option Nat) : Int := match o with
  | some v => v
  | none => -1

theorem take_next (s : ByteArray) (k : Nat) (h : k < s.size) : (bl s).take (k + 1) = (bl s).take k ++ [s[k]'h] := by
  have hk : k < (bl s).length := by rw [bl_length]; exact h
  rw [List.take_add_one, List.getElem?_eq_getElem hk]; rfl
theorem valD_snoc (l : List UInt8) (c : UInt8) : valD 0 (l ++ [c]) = 10 * valD 0 l + (c.toNat - 48) := by simp [valD]

theorem numOf_not (l : List UInt8) (most : Nat) (h : ∀ n, l ≠ Lib.decDigits n) : numOf l most = none := by
  cases hn : numOf l most with
  | none => rfl
  | some m => exact absurd (numOf_some hn).1 (h m)
theorem head_zero (n : Nat) (h : (Lib.decDigits n).head? = some 48) : n = 0 := by
  rcases Nat.eq_zero_or_pos n with h0 | h0
  · exact h0
  · exact absurd rfl (decDigits_head n h0 48 h)
theorem decDigits_zero : Lib.decDigits 0 = [48] := decDigits_small (by decide)

set_option maxHeartbeats 1000000 in
set_option maxRecDepth 100000 in
theorem numberOf_any (s : ByteArray) (most : Nat) (hm : most ≤ 18) (w : World) (hs : s.size ≤ 281474976710656) :
    Calls Tryd.prog 50 #[.string s, .int .i64 most] w fun e w' => e = .returned (.int .i64 (numI (numOf (bl s) most))) ∧ w = w' := by
  by_cases h0 : s.size < 1
  · have HN : Hid (numOf (bl s) most = none) := numOf_not _ _ fun n h => by
      have h1 := bl_length s
      rw [h] at h1
      have := List.length_pos_iff.2 (decDigits_ne n)
      omega
    go_enter Tryd.func50, Tryd.ntmps50
    go_wp2_with fail
    go_ret
    rw [HN.out]; exact ⟨rfl, rfl⟩
  · by_cases h1 : (most : Int) < (s.size : Int)
    · have HN : Hid (numOf (bl s) most = none) := by
        show _ = _; unfold numOf; rw [if_neg (fun h => by have := h.1; rw [bl_length] at this; omega)]
      go_enter Tryd.func50, Tryd.ntmps50
      go_wp2_with fail
      go_ret
      rw [HN.out]; exact ⟨rfl, rfl⟩
    · have hs0 : 0 < s.size := by omega
      have i0 : ∀ W : World, (Instr.index 9 (.string s) (.int .i64 0)).run Tryd.prog W = .ok (.int .u8 (s[0]'hs0).toNat) W := index_nat s 0 0 hs0 rfl
      have hh : (bl s).head? = some (s[0]'hs0) := by
        have := drop_cons s 0 (by omega)
        rw [List.drop_zero] at this; rw [this]; rfl
      have HH := Lib.hid hh
      clear hh
      by_cases hz : 1 < s.size ∧ (s[0]'hs0).toNat = 48
      · have HN : Hid (numOf (bl s) most = none) := numOf_not _ _ fun n h => by
          have h2 : (Lib.decDigits n).head? = some 48 := by rw [← h, HH.out]; congr 1; exact UInt8.toNat_inj.1 hz.2
          have h3 := head_zero n h2
          rw [h3, decDigits_zero] at h
          have h4 := congrArg List.length h
          rw [bl_length] at h4
          have : s.size = 1 := h4
          omega
        have z1 : (1 : Int) < (s.size : Int) := by omega
        have z2 : (((s[0]'hs0).toNat : Int) == 48) = true := by rw [beq_iff_eq]; omega
        clear hz
        go_enter Tryd.func50, Tryd.ntmps50
        go_wp2_with fail
        go_ret
        rw [HN.out]; exact ⟨rfl, rfl⟩
      · have HF : Hid ((∀ c ∈ bl s, isD c) → numI (numOf (bl s) most) = (valD 0 (bl s) : Int)) := fun hd => by
          have h5 := dec_of (bl s) hd (fun h => by have := bl_length s; rw [h] at this; simp at this; omega) (fun c hc hl => by
            rw [HH.out] at hc
            obtain rfl := Option.some.inj hc
            rw [bl_length] at hl
            exact fun h48 => hz ⟨hl, h48⟩)
          unfold numOf
          rw [if_pos ⟨by rw [bl_length]; omega, h5⟩]; rfl
        have HG : Hid (∀ c ∈ bl s, ¬ isD c → numOf (bl s) most = none) := fun c hc hn => numOf_not _ _ fun n h => by
          rw [h] at hc; exact hn (decDigits_isD n c hc)
        have hsm : s.size ≤ 18 := by omega
        have LP : ∀ Z : Prop, Z → Z := fun _ h => h
        clear LP
        by_cases hz1 : 1 < s.size
        · have z1 : (1 : Int) < (s.size : Int) := by omega
          have z2 : (((s[0]'hs0).toNat : Int) == 48) = false := by rw [beq_eq_false_iff_ne]; intro h; exact hz ⟨hz1, by omega⟩
          clear hz
          go_enter Tryd.func50, Tryd.ntmps50
          go_wp2_with fail
          clear i0 z2
          go_loop [5, 6] (fun nv iv => ∃ k m : Nat, k ≤ s.size ∧ m < 10 ^ k ∧ iv = .int .i64 k ∧ nv = .int .i64 m ∧ Hid (m = valD 0 ((bl s).take k) ∧ ∀ c ∈ (bl s).take k, isD c)) (fun _ iv => s.size - (intOf iv).toNat)
          case atStart => exact ⟨0, 0, Nat.zero_le _, by decide, rfl, rfl, rfl, fun c hc => by cases hc⟩
          case round =>
            obtain ⟨k, m, hk, hmk, rfl, rfl, H⟩ := hrel
            by_cases hlt : k < s.size
            · have ix : ∀ W : World, (Instr.index 9 (.string s) (.int .i64 (k : Int))).run Tryd.prog W = .ok (.int .u8 (s[k]'hlt).toNat) W := index_nat s k k hlt rfl
              have hmem : (s[k]'hlt) ∈ bl s := by
                have := drop_cons s k hlt
                exact List.mem_of_mem_drop (by rw [this]; exact List.mem_cons_self)
              have hp : 10 ^ k ≤ 10 ^ 17 := Nat.pow_le_pow_right (by decide) (by omega)
              have hm17 : m < 100000000000000000 := Nat.lt_of_lt_of_le hmk hp
              clear hp
              by_cases d0 : 48 ≤ (s[k]'hlt).toNat
              · by_cases d1 : (s[k]'hlt).toNat ≤ 57
                · have H2 : Hid (10 * m + ((s[k]'hlt).toNat - 48) = valD 0 ((bl s).take (k + 1)) ∧ ∀ c ∈ (bl s).take (k + 1), isD c) := by
                    refine ⟨?_, ?_⟩
                    · rw [take_next s k hlt, valD_snoc, ← H.out.1]
                    · rw [take_next s k hlt]; intro c hc
                      rcases List.mem_append.1 hc with hc | hc
                      · exact H.out.2 c hc
                      · obtain rfl := List.mem_singleton.1 hc; exact ⟨d0, d1⟩
                  have hmk2 : 10 * m + ((s[k]'hlt).toNat - 48) < 10 ^ (k + 1) := by rw [Nat.pow_succ]; omega
                  have HK := Lib.hid hmk2
                  clear H hmk hmk2 hmem
                  go_wp2_with fail
                  go_round
                  case rel => exact ⟨k + 1, 10 * m + ((s[k]'hlt).toNat - 48), by omega, HK.out, by go_num, by go_num, H2⟩
                  case measure => simp [intOf]; omega
                · have HN := Lib.hid (HG.out _ hmem fun h => d1 h.2)
                  clear hmk
                  go_wp2_with fail
                  go_ret
                  rw [HN.out]; exact ⟨rfl, rfl⟩
              · have HN := Lib.hid (HG.out _ hmem fun h => d0 h.1)
                clear hmk
                go_wp2_with fail
                go_ret
                rw [HN.out]; exact ⟨rfl, rfl⟩
            · have HE : Hid (numI (numOf (bl s) most) = (m : Int)) := by
                have e : (bl s).take k = bl s := List.take_of_length_le (by rw [bl_length]; omega)
                have h6 := H.out
                rw [e] at h6
                show _ = _
                rw [h6.1]; exact HF.out h6.2
              clear hmk
              go_wp2_with fail
              go_ret
              rw [HE.out]; exact ⟨rfl, rfl⟩
        · clear hz
          go_enter Tryd.func50, Tryd.ntmps50
          go_wp2_with fail
          clear i0
          go_loop [5, 6] (fun nv iv => ∃ k m : Nat, k ≤ s.size ∧ m < 10 ^ k ∧ iv = .int .i64 k ∧ nv = .int .i64 m ∧ Hid (m = valD 0 ((bl s).take k) ∧ ∀ c ∈ (bl s).take k, isD c)) (fun _ iv => s.size - (intOf iv).toNat)
          case atStart => exact ⟨0, 0, Nat.zero_le _, by decide, rfl, rfl, rfl, fun c hc => by cases hc⟩
          case round =>
            obtain ⟨k, m, hk, hmk, rfl, rfl, H⟩ := hrel
            by_cases hlt : k < s.size
            · have ix : ∀ W : World, (Instr.index 9 (.string s) (.int .i64 (k : Int))).run Tryd.prog W = .ok (.int .u8 (s[k]'hlt).toNat) W := index_nat s k k hlt rfl
              have hmem : (s[k]'hlt) ∈ bl s := by
                have := drop_cons s k hlt
                exact List.mem_of_mem_drop (by rw [this]; exact List.mem_cons_self)
              have hp : 10 ^ k ≤ 10 ^ 17 := Nat.pow_le_pow_right (by decide) (by omega)
              have hm17 : m < 100000000000000000 := Nat.lt_of_lt_of_le hmk hp
              clear hp
              by_cases d0 : 48 ≤ (s[k]'hlt).toNat
              · by_cases d1 : (s[k]'hlt).toNat ≤ 57
                · have H2 : Hid (10 * m + ((s[k]'hlt).toNat - 48) = valD 0 ((bl s).take (k + 1)) ∧ ∀ c ∈ (bl s).take (k + 1), isD c) := by
                    refine ⟨?_, ?_⟩
                    · rw [take_next s k hlt, valD_snoc, ← H.out.1]
                    · rw [take_next s k hlt]; intro c hc
                      rcases List.mem_append.1 hc with hc | hc
                      · exact H.out.2 c hc
                      · obtain rfl := List.mem_singleton.1 hc; exact ⟨d0, d1⟩
                  have hmk2 : 10 * m + ((s[k]'hlt).toNat - 48) < 10 ^ (k + 1) := by rw [Nat.pow_succ]; omega
                  have HK := Lib.hid hmk2
                  clear H hmk hmk2 hmem
                  go_wp2_with fail
                  go_round
                  case rel => exact ⟨k + 1, 10 * m + ((s[k]'hlt).toNat - 48), by omega, HK.out, by go_num, by go_num, H2⟩
                  case measure => simp [intOf]; omega
                · have HN := Lib.hid (HG.out _ hmem fun h => d1 h.2)
                  clear hmk
                  go_wp2_with fail
                  go_ret
                  rw [HN.out]; exact ⟨rfl, rfl⟩
              · have HN := Lib.hid (HG.out _ hmem fun h => d0 h.1)
                clear hmk
                go_wp2_with fail
                go_ret
                rw [HN.out]; exact ⟨rfl, rfl⟩
            · have HE : Hid (numI (numOf (bl s) most) = (m : Int)) := by
                have e : (bl s).take k = bl s := List.take_of_length_le (by rw [bl_length]; omega)
                have h6 := H.out
                rw [e] at h6
                show _ = _
                rw [h6.1]; exact HF.out h6.2
              clear hmk
              go_wp2_with fail
              go_ret
              rw [HE.out]; exact ⟨rfl, rfl⟩
end Go.Proofs.YtpafddeakanopaaDoor
