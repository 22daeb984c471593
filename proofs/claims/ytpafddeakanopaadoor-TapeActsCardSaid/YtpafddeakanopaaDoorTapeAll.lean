/- The tape's Read, Append and Recover by their contracts. -/
import Derived.Test.YtpafddeakanopaaDoorTapeRead
namespace Go.Proofs.YtpafddeakanopaaDoor
open Go Go.RowKit

theorem Tryd.infoStrT : (Tryd.prog.info? 9).map (fun i => (i.zero, i.size, i.bytes)) = some (some (.string ⟨#[]⟩), 1, 16) := by kernel_rfl

/-- What Read hands back. -/
def ReadPostT (l : List UInt8) (w : World) (e : Ending) (w' : World) : Prop :=
  ∃ (v : Value) (zs : List ByteArray) (n : Nat), e = .returned (.tuple #[v, .int .i64 n]) ∧ Hid (w'.ownsRow w.heap.size 9 1 v zs.length (zs.flatMap encStr)) ∧ Hid (zs.map bl = tapeL l) ∧ Hid (n = (recsL (zs.map bl)).length) ∧ n ≤ l.length ∧ zs.length ≤ l.length ∧ Below w.heap.size w w'

set_option maxHeartbeats 2000000 in
set_option maxRecDepth 100000 in
theorem read_any (s : ByteArray) (w : World) (hs : s.size ≤ 10000000) (hE : TEnv w) :
    Calls Tryd.prog 22 #[.string s] w (ReadPostT (bl s) w) := by
  obtain ⟨i0, hi0, hz0, hz1, hz2⟩ := info_parts Tryd.infoStrT
  have HE := Lib.hid hE
  clear hE
  have hsl : (bl s).length = s.size := bl_length s
  go_enter Tryd.func22, Tryd.ntmps22
  go_wp2_with fail
  go_loopw [4, 5] (fun v i wr => ∃ (k : Nat) (acc : List ByteArray), k ≤ s.size ∧ i = .int .i64 k ∧ acc.length ≤ k ∧ Hid (tapeL (bl s) = acc.map bl ++ tapeL ((bl s).drop k)) ∧ Hid (k = (recsL (acc.map bl)).length) ∧
      Hid (wr.ownsRow w.heap.size 9 1 v acc.length (acc.flatMap encStr)) ∧ Below w.heap.size w wr) (fun _ i _ => s.size - (intOf i).toNat)
  case atStart => exact ⟨0, [], Nat.zero_le _, rfl, Nat.le_refl _, rfl, rfl, World.ownsRow_nil _ _ _ _, Below.refl _ _⟩
  case round =>
    obtain ⟨k, acc, hk, rfl, hacc, HC, HK, HO, hb⟩ := hrel
    have sl := slice_from s k k hk rfl
    have hx : (s.extract k s.size).size ≤ 100000000 := by simp; omega
    have hxl : Hid (bl (s.extract k s.size) = (bl s).drop k) := by
      show _ = _; rw [bl_extract, List.take_of_length_le (by rw [List.length_drop]; omega)]
    go_wp2_with fail
    refine (one_any (s.extract k s.size) _ hx (HE.out.ext hb)).mono ?_
    rintro e w2 ⟨x, ok, rfl, HT, hxs, hb2⟩
    have hb3 := hb.trans (hb2.mono hb.size)
    have HO2 := Lib.hid (owns_below HO.out hb2)
    clear HO
    rcases HT.out with ⟨ho, rfl⟩ | ⟨ho, rfl, rfl⟩
    · rw [hxl.out] at ho
      have h2 := oneL_ne ho
      have hx20 : x.size ≤ 20000 := by have := (oneL_inv ho).1; rw [bl_length] at this; exact this
      have HS := Lib.hid (tapeL_some ho)
      have hp := recL_pos (bl x)
      simp only [List.length_drop] at h2
      clear HT hxl ho
      go_wp2_with (at_builtin; refine wpList_append_own _ rfl _ _ 25 rfl w.heap.size 9 i0 (.string ⟨#[]⟩) 1 16 Tryd.underlying25 hi0 hz0 hz1 hz2 rfl (by decide) _ _ _ rfl (HO2.out.alloc _) ⟨w2.heap.size, 0, none⟩ 1 1 (encStr x) rfl rfl ?c1 ?c2 ?c3 ?c4 ?c5 ?_)
      case c1 =>
        intro j u hj
        match j, hj with
        | 0, hj => simp at hj; subst hj; simp [Addr.add]
      case c2 => intro u hu; simp at hu; subst hu; rfl
      case c3 => unfold maxLen; omega
      case c4 => omega
      case c5 => have := hb3.size; simp; omega
      intro v' w3 hown' hgrow _
      have hown2 : Hid (w3.ownsRow w.heap.size 9 1 v' (acc ++ [x]).length ((acc ++ [x]).flatMap encStr)) := by
        show World.ownsRow _ _ _ _ _ _ _
        simpa using hown'
      have hbb : Below w.heap.size w w3 := (hb3.alloc hb3.size _).grown hgrow (by have := hb3.size; simp; omega) (fun g hg => (HO2.out.lt g hg).1)
      have HP := Lib.hid (HE.out.ext hbb).2.1
      clear hown' hgrow HO2 hb3 hb
      go_wp2_with fail
      refine (record_any x _ (by omega) HP.out).mono ?_
      rintro e w4 ⟨⟨y, rfl, HY, hy⟩, hb4⟩
      have hbc := hbb.trans (hb4.mono hbb.size)
      have hyl : y.size = (recL (bl x)).length := by rw [← HY.out, bl_length]
      have hown3 := Lib.hid (owns_below hown2.out hb4)
      clear HY hown2 HP
      go_wp2_with fail
      go_roundw
      case rel =>
        refine ⟨k + y.size, acc ++ [x], by omega, by go_num, by simp; omega, ?_, ?_, hown3, hbc⟩
        · show _ = _
          rw [HC.out, HS.out, List.map_append, List.append_assoc, List.drop_drop, hyl]; rfl
        · show _ = _
          rw [List.map_append, List.map_singleton, recsL_snoc, List.length_append, ← HK.out, hyl]
      case measure => simp [intOf]; omega
    · have HN : Hid (tapeL ((bl s).drop k) = []) := by rw [hxl.out] at ho; exact tapeL_none ho
      clear HT hxl ho
      go_wp2_with fail
      go_ret2
      exact ⟨_, _, _, rfl, HO2, by show _ = _; rw [HC.out, HN.out, List.append_nil], HK, by omega, by omega, hb3⟩
end Go.Proofs.YtpafddeakanopaaDoor
