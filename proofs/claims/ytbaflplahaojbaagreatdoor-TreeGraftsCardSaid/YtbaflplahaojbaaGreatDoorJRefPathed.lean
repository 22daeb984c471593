/- The reference's Cut, IsPart, PartsOf, PathError, InTexts by their contracts. -/
import Derived.Test.YtbaflplahaojbaaGreatDoorJPathed
import Derived.Test.YtbaflplahaojbaaGreatDoorJPlainly
import Derived.Test.YtbaflplahaojbaaGreatDoorJRowed
namespace Go.Proofs.YtbaflplahaojbaaGreatDoor
open Go Go.RowKit

theorem blExtract (s : ByteArray) (i j : Nat) : bl (s.extract i j) = ((bl s).drop i).take (j - i) := by
  show (s.extract i j).data.toList = _
  rw [ByteArray.data_extract, Array.toList_extract, List.extract_eq_take_drop]
  rfl
theorem cur_next (s : ByteArray) (a k : Nat) (ha : a ≤ k) (h : k < s.size) : bl (s.extract a (k + 1)) = bl (s.extract a k) ++ [s[k]] := by
  rw [blExtract, blExtract, show k + 1 - a = (k - a) + 1 by omega, List.take_add_one]
  congr 1
  rw [List.getElem?_drop, show a + (k - a) = k by omega, List.getElem?_eq_getElem (by rw [bl_length]; exact h)]
  rfl

theorem Tryz.infoStr : (Tryz.prog.info? 9).map (fun i => (i.zero, i.size, i.bytes)) = some (some (.string ⟨#[]⟩), 1, 16) := by kernel_rfl

/-- What the reference's Cut hands back. -/
def CutPost (s : ByteArray) (c : UInt8) (w : World) (e : Ending) (w' : World) : Prop :=
  ∃ (v : Value) (zs : List ByteArray), e = .returned v ∧ Hid (Row encStr 1 w' v zs) ∧ Hid (zs.map bl = cutL c (bl s)) ∧ zs.length ≤ s.size + 1 ∧ Below w.heap.size w w'

set_option maxHeartbeats 2000000 in
set_option maxRecDepth 100000 in
theorem refCut_any (s : ByteArray) (c : UInt8) (w : World) (hs : s.size ≤ 1000000) :
    Calls Tryz.prog 14 #[.string s, .int .u8 c.toNat] w (CutPost s c w) := by
  obtain ⟨i0, hi0, hz0, hz1, hz2⟩ := info_parts Tryz.infoStr
  go_enter Tryz.func14, Tryz.ntmps14
  go_wp2_with fail
  go_loopw [5, 6, 7] (fun v f i wr => ∃ (k a : Nat) (acc : List ByteArray), a ≤ k ∧ k ≤ s.size ∧ i = .int .i64 k ∧ f = .int .i64 a ∧ acc.length ≤ k ∧
      Hid (cutL c (bl s) = acc.map bl ++ cutGo c (bl (s.extract a k)) ((bl s).drop k)) ∧ Hid (wr.ownsRow w.heap.size 9 1 v acc.length (acc.flatMap encStr)) ∧ Below w.heap.size w wr) (fun _ _ i _ => s.size - (intOf i).toNat)
  case atStart => exact ⟨0, 0, [], Nat.le_refl _, Nat.zero_le _, rfl, rfl, Nat.le_refl _, by show _ = _; rw [blExtract]; rfl, World.ownsRow_nil _ _ _ _, Below.refl _ _⟩
  case round =>
    obtain ⟨k, a, acc, hak, hk, rfl, rfl, hacc, HC, HO, hb⟩ := hrel
    by_cases hlt : k < s.size
    · have ix : ∀ W : World, (Instr.index 9 (.string s) (.int .i64 (k : Int))).run Tryz.prog W = .ok (.int .u8 s[k].toNat) W := index_nat s k k hlt rfl
      by_cases hc : s[k] = c
      · have q : ((s[k].toNat : Int) == (c.toNat : Int)) = true := by rw [hc]; simp
        have sl := slice_nat s a k a k hak (by omega) rfl rfl
        have HC2 : Hid (cutL c (bl s) = (acc ++ [s.extract a k]).map bl ++ cutGo c (bl (s.extract (k + 1) (k + 1))) ((bl s).drop (k + 1))) := by
          show _ = _
          rw [HC.out, drop_cons s k hlt, cutGo, if_pos hc, List.map_append, List.append_assoc]
          have : bl (s.extract (k + 1) (k + 1)) = [] := by rw [blExtract]; simp
          rw [this]; rfl
        clear HC hc
        go_wp2_with (at_builtin; refine wpList_append_own _ rfl _ _ 36 rfl w.heap.size 9 i0 (.string ⟨#[]⟩) 1 16 Tryz.underlying36 hi0 hz0 hz1 hz2 rfl (by decide) _ _ _ rfl (HO.out.alloc _) ⟨wr.heap.size, 0, none⟩ 1 1 (encStr (s.extract a k)) rfl rfl ?c1 ?c2 ?c3 ?c4 ?c5 ?_)
        case c1 =>
          intro j u hj
          match j, hj with
          | 0, hj => simp at hj; subst hj; simp [Addr.add]
        case c2 => intro u hu; simp at hu; subst hu; rfl
        case c3 => rw [maxLen_eq]; omega
        case c4 => omega
        case c5 => have := hb.size; simp; omega
        intro v' w2 hown' hgrow _
        have hown2 : Hid (w2.ownsRow w.heap.size 9 1 v' (acc ++ [s.extract a k]).length ((acc ++ [s.extract a k]).flatMap encStr)) := by
          show World.ownsRow _ _ _ _ _ _ _
          simpa using hown'
        have hrow : ∀ g, u5.ownBlock = some g → w.heap.size ≤ g := fun g hg => (HO.out.lt g hg).1
        have hbb : Below w.heap.size w w2 := (hb.alloc hb.size _).grown hgrow (by have := hb.size; simp; omega) (fun g hg => hrow g hg)
        clear hown' hgrow HO hrow ix q sl hb
        go_wp2_with fail
        go_roundw
        case rel => exact ⟨k + 1, k + 1, acc ++ [s.extract a k], Nat.le_refl _, by omega, by go_num, by go_num, by simp; omega, HC2, hown2, hbb⟩
        case measure => simp [intOf]; omega
      · have q : ((s[k].toNat : Int) == (c.toNat : Int)) = false := by
          rw [beq_eq_false_iff_ne]; intro h; exact hc (UInt8.toNat_inj.1 (by omega))
        have HC2 : Hid (cutL c (bl s) = acc.map bl ++ cutGo c (bl (s.extract a (k + 1))) ((bl s).drop (k + 1))) := by
          show _ = _
          rw [HC.out, drop_cons s k hlt, cutGo, if_neg hc, cur_next s a k hak hlt]
        clear HC hc
        go_wp2_with fail
        go_roundw
        case rel => exact ⟨k + 1, a, acc, by omega, by omega, by go_num, rfl, by omega, HC2, HO, hb⟩
        case measure => simp [intOf]; omega
    · have hkk : k = s.size := by omega
      subst hkk
      have sl := slice_from s a a hak rfl
      have HC2 : Hid ((acc ++ [s.extract a s.size]).map bl = cutL c (bl s)) := by
        show _ = _
        rw [HC.out, drop_nil s s.size (Nat.le_refl _), cutGo, List.map_append]; rfl
      clear HC
      go_wp2_with (at_builtin; refine wpList_append_own _ rfl _ _ 36 rfl w.heap.size 9 i0 (.string ⟨#[]⟩) 1 16 Tryz.underlying36 hi0 hz0 hz1 hz2 rfl (by decide) _ _ _ rfl (HO.out.alloc _) ⟨wr.heap.size, 0, none⟩ 1 1 (encStr (s.extract a s.size)) rfl rfl ?c1 ?c2 ?c3 ?c4 ?c5 ?_)
      case c1 =>
        intro j u hj
        match j, hj with
        | 0, hj => simp at hj; subst hj; simp [Addr.add]
      case c2 => intro u hu; simp at hu; subst hu; rfl
      case c3 => rw [maxLen_eq]; omega
      case c4 => omega
      case c5 => have := hb.size; simp; omega
      intro v' w2 hown' hgrow _
      have hown2 : Hid (w2.ownsRow w.heap.size 9 1 v' (acc ++ [s.extract a s.size]).length ((acc ++ [s.extract a s.size]).flatMap encStr)) := by
        show World.ownsRow _ _ _ _ _ _ _
        simpa using hown'
      have hrow : ∀ g, u5.ownBlock = some g → w.heap.size ≤ g := fun g hg => (HO.out.lt g hg).1
      have hbb : Below w.heap.size w w2 := (hb.alloc hb.size _).grown hgrow (by have := hb.size; simp; omega) (fun g hg => hrow g hg)
      clear hown' hgrow HO hrow sl hb
      go_wp2_with fail
      go_ret
      exact ⟨v', acc ++ [s.extract a s.size], rfl, Row.of_owns (enc := encStr) (fun _ => rfl) hown2.out, HC2, by simp; omega, hbb⟩
end Go.Proofs.YtbaflplahaojbaaGreatDoor
