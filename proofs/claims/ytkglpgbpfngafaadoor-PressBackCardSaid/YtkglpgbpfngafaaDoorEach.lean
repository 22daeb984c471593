/- press.each by its contract: whatever it is to do at each run, as an invariant on the runs so far. -/
import Derived.Test.YtkglpgbpfngafaaDoorNumber
import Derived.Test.YtkglpgbpfngafaaDoorParse
import Derived.Test.YtkglpgbpfngafaaDoorStr
import Derived.Test.YtkglpgbpfngafaaDoorEnv
import Derived.IntWalk
namespace Go.Proofs.YtkglpgbpfngafaaDoor
open Go Go.RowKit

theorem bl_from (s : ByteArray) (i : Nat) : bl (s.extract i s.size) = (bl s).drop i := by
  rw [bl_extract, List.take_of_length_le]
  rw [List.length_drop, bl_length]; omega

theorem number_at (s : ByteArray) (i : Nat) (w : World) (hs : s.size ≤ 1073741824) :
    Calls Tryd.prog 85 #[.string (s.extract i s.size)] w fun e w' => ∃ n k : Nat,
      e = .returned (.tuple #[.int .i64 n, .int .i64 k]) ∧ Hid (numGo ((bl s).drop i) 0 0 = (n, k)) ∧ n < 1000000000 ∧ i + k ≤ max i s.size ∧ w = w' := by
  refine (number_any _ w (by rw [ByteArray.size_extract]; omega)).mono ?_
  rintro e w' ⟨rfl, rfl⟩
  rw [bl_from]
  refine ⟨_, _, rfl, rfl, numGo_lt _, ?_, rfl⟩
  have := numGo_le ((bl s).drop i) 0 0
  rw [List.length_drop, bl_length] at this
  omega

/-- What a call of each ends in. -/
def EachEnd (E : Nat → Addr) (I : List (Nat × UInt8) → World → Prop) (r : List (Nat × UInt8) × Option Nat) (e : Ending) (w' : World) : Prop :=
  match r.2 with
  | none => e = .returned .nilIface ∧ I r.1 w'
  | some p => ∃ W, I r.1 W ∧ e = .returned (.iface 29 (.pointer (some ⟨W.heap.size, 0, none⟩))) ∧ w' = W.alloc (.cells #[.int .i64 p, sentV E 0] 31)

theorem EachEnd.err {E : Nat → Addr} {I : List (Nat × UInt8) → World → Prop} {r : List (Nat × UInt8) × Option Nat} {acc : List (Nat × UInt8)} {p : Nat} {W : World} (h : r = (acc, some p)) (hI : I acc W) (q : Int) (hq : q = p) :
    EachEnd E I r (.returned (.iface 29 (.pointer (some ⟨W.heap.size, 0, none⟩)))) (W.alloc (.cells #[.int .i64 q, sentV E 0] 31)) := by
  subst h; subst hq; exact ⟨W, hI, rfl, rfl⟩
theorem EachEnd.ok {E : Nat → Addr} {I : List (Nat × UInt8) → World → Prop} {r : List (Nat × UInt8) × Option Nat} {acc : List (Nat × UInt8)} {W : World} (h : r = (acc, none)) (hI : I acc W) :
    EachEnd E I r (.returned .nilIface) W := by
  subst h; exact ⟨rfl, hI⟩

set_option maxHeartbeats 1000000 in
set_option maxRecDepth 100000 in
theorem each_any {E : Nat → Addr} (s : ByteArray) (w : World) (hs : s.size ≤ 1073741824) (g : Nat) (cb : Array Value) (I : List (Nat × UInt8) → World → Prop)
    (eg : ∀ args w, (callFunc g args).run Tryd.prog w = .ok (.enter g args) w)
    (hdo : ∀ acc (n : Nat) (c : UInt8) W, I acc W → n < 1000000000 → (∃ rest, acc ++ (n, c) :: rest = (runsL (bl s)).1) → Calls Tryd.prog g (#[.int .i64 n, .int .u8 c.toNat] ++ cb) W fun e W' => e = .returned (.tuple #[]) ∧ I (acc ++ [(n, c)]) W')
    (hE : ∀ acc W, I acc W → W.cell? ⟨0, 0, none⟩ = some (sentV E 0)) (h0 : I [] w) :
    Calls Tryd.prog 52 #[.string s, .func (.func g) #[] cb] w (EachEnd E I (runsL (bl s))) := by
  have HD := Lib.hid hdo
  have HE := Lib.hid hE
  clear hdo hE
  go_enter Tryd.func52, Tryd.ntmps52
  go_wp2_with fail
  go_loopw [4, 5] (fun z i wr => ∃ (k : Nat) (acc : List (Nat × UInt8)), k ≤ s.size ∧ i = .int .i64 k ∧ z = .nilIface ∧ acc.length ≤ k ∧ Hid (PP s k acc) ∧ Hid (I acc wr)) (fun _ i _ => s.size - (intOf i).toNat)
  case atStart => exact ⟨0, [], Nat.zero_le _, rfl, rfl, Nat.le_refl _, PP.start s, h0⟩
  case round =>
    obtain ⟨i, acc, hi, rfl, rfl, hacc, HP, HI⟩ := hrel
    clear h0
    have hE0 := HE.out _ _ HI.out
    by_cases hlt : i < s.size
    · have sf : ∀ W : World, (Instr.slice 9 (.string s) (some (.int .i64 (i : Int))) none none).run Tryd.prog W = .ok (.string (s.extract i s.size)) W := slice_from s _ i hi rfl
      go_wp2_with fail
      refine (number_at s i _ hs).mono ?_
      rintro e w1 ⟨n, k, rfl, HN, hn9, hik, rfl⟩
      clear sf
      have hik2 : i + k ≤ s.size := by omega
      have HN2 : Hid ((numGo ((bl s).drop i) 0 0).2 = k) := by show _ = _; rw [HN.out]
      by_cases hk0 : k = 0
      · subst hk0
        have HF : Hid (runsL (bl s) = (acc, some i)) := HP.out.fail fun f => parse_none hlt HN2.out
        clear HP HN HN2
        go_wp2_with fail
        go_ret
        exact EachEnd.err HF.out HI.out _ (by omega)
      · have hkb : ((k : Int) == 0) = false := by simp; omega
        by_cases he : i + k = s.size
        · have HF : Hid (runsL (bl s) = (acc, some (i + k))) := HP.out.fail fun f => parse_end hlt HN2.out hk0 he
          have heb : ((i : Int) + k == s.size) = true := by simp; omega
          have he2 : s.size ≤ i + k := by omega
          clear HP HN HN2 he
          go_wp2_with fail
          go_ret
          exact EachEnd.err HF.out HI.out _ (by omega)
        · have he2 : i + k < s.size := by omega
          have heb : ((i : Int) + k == s.size) = false := by simp; omega
          have e3 : ∀ W : World, (Instr.index 9 (.string s) (.int .i64 ((i : Int) + k))).run Tryd.prog W = .ok (.int .u8 s[i + k].toNat) W := index_nat s _ (i + k) he2 (by omega)
          by_cases hc : s[i + k] = 58
          · have hcb : (((s[i + k].toNat : Nat) : Int) != 58) = false := by rw [hc]; rfl
            by_cases hl : i + k + 1 = s.size
            · have HF : Hid (runsL (bl s) = (acc, some (i + k + 1))) := HP.out.fail fun f => parse_last hlt HN2.out hk0 he2 hc hl
              have hlb : ((i : Int) + k + 1 == s.size) = true := by simp; omega
              clear HP HN HN2 he hc hl
              go_wp2_with fail
              go_ret
              exact EachEnd.err HF.out HI.out _ (by omega)
            · have hl2 : i + k + 1 < s.size := by omega
              have hlb : ((i : Int) + k + 1 == s.size) = false := by simp; omega
              have HS : Hid (PP s (i + k + 2) (acc ++ [(n, s[i + k + 1])])) := by
                have := HP.out.step hlt HN2.out hk0 hl2 hc
                rw [HN.out] at this; exact this
              have e4 : ∀ W : World, (Instr.index 9 (.string s) (.int .i64 ((i : Int) + k + 1))).run Tryd.prog W = .ok (.int .u8 s[i + k + 1].toNat) W := index_nat s _ (i + k + 1) hl2 (by omega)
              have hcall := HD.out acc n s[i + k + 1] wr HI.out hn9 HS.out.rest
              have HC := Lib.hid hcall
              clear HP HN HN2 he hc hl hcall
              go_wp2_with fail
              refine HC.out.mono ?_
              rintro e w2 ⟨rfl, hI2⟩
              have HI2 := Lib.hid hI2
              clear hI2 HC e3 e4 hE0
              go_wp2_with fail
              go_roundw
              case rel => exact ⟨i + k + 2, acc ++ [(n, s[i + k + 1])], by omega, by go_num, rfl, by simp; omega, HS, HI2⟩
              case measure => simp [intOf]; omega
          · have HF : Hid (runsL (bl s) = (acc, some (i + k))) := HP.out.fail fun f => parse_sign hlt HN2.out hk0 he2 hc
            have hcb : (((s[i + k].toNat : Nat) : Int) != 58) = true := by
              rw [bne_iff_ne]; intro h; exact hc (UInt8.toNat_inj.1 (by show _ = 58; omega))
            clear HP HN HN2 he hc
            go_wp2_with fail
            go_ret
            exact EachEnd.err HF.out HI.out _ (by omega)
    · have HF : Hid (runsL (bl s) = (acc, none)) := HP.out.done hlt
      clear HP
      go_wp2_with fail
      go_ret
      exact EachEnd.ok HF.out HI.out
end Go.Proofs.YtkglpgbpfngafaaDoor
