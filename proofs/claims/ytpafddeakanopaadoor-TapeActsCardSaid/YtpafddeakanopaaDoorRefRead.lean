/- The reference's ReadTape by its contract. -/
import Derived.Test.YtpafddeakanopaaDoorNumberOfT
import Derived.Test.YtpafddeakanopaaDoorTapeAll
namespace Go.Proofs.YtpafddeakanopaaDoor
open Go Go.RowKit

/-- No colon from k on to q. -/
def NoColon (s : ByteArray) (k q : Nat) : Prop := (58 : UInt8) ∉ ((bl s).drop k).take (q - k)
theorem NoColon.next {s : ByteArray} {k q : Nat} (h : NoColon s k q) (hk : k ≤ q) (hq : q < s.size) (hc : s[q] ≠ 58) : NoColon s k (q + 1) := by
  unfold NoColon at h ⊢
  have hql : q - k < ((bl s).drop k).length := by rw [List.length_drop, bl_length]; omega
  rw [show q + 1 - k = (q - k) + 1 by omega, List.take_add_one, List.getElem?_eq_getElem hql]
  intro hm
  rcases List.mem_append.1 hm with hm | hm
  · exact h hm
  · simp only [Option.toList_some, List.mem_singleton] at hm
    rw [List.getElem_drop] at hm
    have : (bl s)[k + (q - k)]'(by rw [bl_length]; omega) = s[q] := by
      have e : k + (q - k) = q := by omega
      simp only [e]
      rfl
    rw [this] at hm
    exact hc hm.symm
theorem one_miss {s : ByteArray} {k : Nat} (h : NoColon s k s.size) : oneL ((bl s).drop k) = none := by
  have : (58 : UInt8) ∉ (bl s).drop k := by
    unfold NoColon at h
    rwa [List.take_of_length_le (by rw [List.length_drop, bl_length]; omega)] at h
  unfold oneL; rw [cut_miss this]; simp
theorem cut_colon {s : ByteArray} {k q : Nat} (h : NoColon s k q) (hk : k ≤ q) (hq : q < s.size) (hc : s[q] = 58) : Lib.cut ((bl s).drop k) [58] = (bl (s.extract k q), (bl s).drop (q + 1), true) := by
  have e : (bl s).drop k = bl (s.extract k q) ++ 58 :: (bl s).drop (q + 1) := by
    rw [bl_extract]
    have h1 : (bl s).drop k = ((bl s).drop k).take (q - k) ++ ((bl s).drop k).drop (q - k) := (List.take_append_drop _ _).symm
    rw [List.drop_drop, show k + (q - k) = q by omega, drop_cons s q hq, hc] at h1
    exact h1
  rw [e]
  refine cut_hit ?_
  rw [bl_extract]
  exact h

theorem two_at (s : ByteArray) (a : Nat) (h : a + 1 < s.size) : ((bl s).drop a).take 2 = [s[a], s[a + 1]] := by
  rw [drop_cons s a (by omega), drop_cons s (a + 1) h]; rfl

set_option maxHeartbeats 4000000 in
set_option maxRecDepth 100000 in
theorem readTape_any (s : ByteArray) (w : World) (hs : s.size ≤ 10000000) :
    Calls Tryd.prog 29 #[.string s] w (ReadPostT (bl s) w) := by
  obtain ⟨i0, hi0, hz0, hz1, hz2⟩ := info_parts Tryd.infoStrT
  have hsl : (bl s).length = s.size := bl_length s
  go_enter Tryd.func29, Tryd.ntmps29
  go_wp2_with fail
  go_loopw [4, 5, 6] (fun v i _ wr => ∃ (k : Nat) (acc : List ByteArray), k ≤ s.size ∧ i = .int .i64 k ∧ acc.length ≤ k ∧ Hid (tapeL (bl s) = acc.map bl ++ tapeL ((bl s).drop k)) ∧ Hid (k = (recsL (acc.map bl)).length) ∧
      Hid (wr.ownsRow w.heap.size 9 1 v acc.length (acc.flatMap encStr)) ∧ Below w.heap.size w wr) (fun _ i _ _ => s.size - (intOf i).toNat)
  case atStart => exact ⟨0, [], Nat.zero_le _, rfl, Nat.le_refl _, rfl, rfl, World.ownsRow_nil _ _ _ _, Below.refl _ _⟩
  case round =>
    obtain ⟨k, acc, hk, rfl, hacc, HC, HK, HO, hb⟩ := hrel
    go_wp2_with fail
    go_loopw [6] (fun j wi => ∃ q : Nat, k ≤ q ∧ q ≤ s.size ∧ j = .int .i64 q ∧ Hid (NoColon s k q) ∧ wi = wr) (fun j _ => s.size - (intOf j).toNat)
    case atStart => exact ⟨k, Nat.le_refl _, hk, rfl, by show (58 : UInt8) ∉ _; simp, rfl⟩
    case round =>
      obtain ⟨q, hkq, hq, rfl, HN, rfl⟩ := hrel
      by_cases hlt : q < s.size
      · have ix : ∀ W : World, (Instr.index 9 (.string s) (.int .i64 (q : Int))).run Tryd.prog W = .ok (.int .u8 s[q].toNat) W := index_nat s q q hlt rfl
        by_cases hc : s[q] = 58
        · have HCUT := Lib.hid (cut_colon HN.out hkq hlt hc)
          have hq58 : ((s[q].toNat : Int) == 58) = true := by rw [hc]; rfl
          have sl := slice_nat s k q k q hkq hq rfl rfl
          have hx : (s.extract k q).size ≤ 281474976710656 := by simp; omega
          have C := Lib.hid (fun W => numberOf_any (s.extract k q) 9 (by decide) W hx)
          clear HN hc
          go_wp2_with fail
          refine (C.out _).mono ?_
          clear C
          rintro e w2 ⟨rfl, rfl⟩
          cases hn : numOf (bl (s.extract k q)) 9 with
          | none =>
            have HT := Lib.hid (tapeL_none (one_no HCUT.out hn))
            clear hn HCUT
            go_wp2_with fail
            go_ret2
            exact ⟨_, _, _, rfl, HO, by show _ = _; rw [HC.out, HT.out, List.append_nil], HK, by omega, by omega, hb⟩
          | some n =>
            have HNM := Lib.hid hn
            clear hn
            rw [show numI (some n) = (n : Int) from rfl]
            have hdl : ((bl s).drop (q + 1)).length = s.size - (q + 1) := by rw [List.length_drop, bl_length]
            by_cases h1 : n ≤ 20000
            · by_cases h2 : n + 2 ≤ s.size - (q + 1)
              · have i1 := index_nat s ((q : Int) + 1 + n) (q + 1 + n) (by omega) (by omega)
                have i2 := index_nat s ((q : Int) + 2 + n) (q + 1 + n + 1) (by omega) (by omega)
                have s2 := slice_nat s ((q : Int) + 1) ((q : Int) + 1 + n) (q + 1) (q + 1 + n) (by omega) (by omega) (by omega) (by omega)
                have HTW := Lib.hid (two_at s (q + 1 + n) (by omega))
                generalize hA : s[q + 1 + n]'(by omega) = A at i1 HTW
                generalize hB : s[q + 1 + n + 1]'(by omega) = Bb at i2 HTW
                clear hA hB
                by_cases c1 : A = 10
                · have q1 : (A.toNat : Int) = 10 := by rw [c1]; rfl
                  by_cases c2 : Bb = 46
                  · have q2 : (Bb.toNat : Int) = 46 := by rw [c2]; rfl
                    have ho : oneL ((bl s).drop k) = some (bl (s.extract (q + 1) (q + 1 + n))) := by
                      rw [bl_extract, show q + 1 + n - (q + 1) = n by omega]
                      refine one_yes HCUT.out HNM.out h1 (by omega) ?_
                      rw [List.drop_drop, HTW.out, c1, c2]
                    have HS := Lib.hid (tapeL_some ho)
                    have hxs : (s.extract (q + 1) (q + 1 + n)).size = n := by simp; omega
                    have hrl : (recL (bl (s.extract (q + 1) (q + 1 + n)))).length = q + 3 + n - k := by
                      have hd := (numOf_some HNM.out).1
                      have hd2 := congrArg List.length hd
                      rw [bl_length, ByteArray.size_extract] at hd2
                      rw [recL_len, bl_length, hxs]
                      omega
                    have HRL := Lib.hid hrl
                    generalize hX : s.extract (q + 1) (q + 1 + n) = X at s2 HS HRL
                    clear hX ho hrl hxs c1 c2 HTW HCUT HNM ix hq58 sl
                    go_wp2_with (at_builtin; refine wpList_append_own _ rfl _ _ 25 rfl w.heap.size 9 i0 (.string ⟨#[]⟩) 1 16 Tryd.underlying25 hi0 hz0 hz1 hz2 rfl (by decide) _ _ _ rfl (HO.out.alloc _) ⟨wr.heap.size, 0, none⟩ 1 1 (encStr X) rfl rfl ?c1 ?c2 ?c3 ?c4 ?c5 ?_)
                    case c1 =>
                      intro j u hj
                      match j, hj with
                      | 0, hj => simp at hj; subst hj; simp [Addr.add]
                    case c2 => intro u hu; simp at hu; subst hu; rfl
                    case c3 => unfold maxLen; omega
                    case c4 => omega
                    case c5 => have := hb.size; simp; omega
                    intro v' w3 hown' hgrow _
                    have hown2 : Hid (w3.ownsRow w.heap.size 9 1 v' (acc ++ [X]).length ((acc ++ [X]).flatMap encStr)) := by
                      show World.ownsRow _ _ _ _ _ _ _
                      simpa using hown'
                    have hbb : Below w.heap.size w w3 := (hb.alloc hb.size _).grown hgrow (by have := hb.size; simp; omega) (fun g hg => (HO.out.lt g hg).1)
                    clear hown' hgrow HO hb
                    go_wp2_with fail
                    go_roundw
                    case rel =>
                      refine ⟨q + 3 + n, acc ++ [X], by omega, by go_num, by simp; omega, ?_, ?_, hown2, hbb⟩
                      · show _ = _
                        rw [HC.out, HS.out, List.map_append, List.append_assoc, List.drop_drop, HRL.out, show k + (q + 3 + n - k) = q + 3 + n by omega]; rfl
                      · show _ = _
                        rw [List.map_append, List.map_singleton, recsL_snoc, List.length_append, ← HK.out, HRL.out]; omega
                    case measure => simp [intOf]; omega
                  · have q2 : ¬ ((Bb.toNat : Int) = 46) := by
                      intro h; exact c2 (UInt8.toNat_inj.1 (by have : ((46 : UInt8).toNat : Int) = 46 := rfl; omega))
                    have HT := Lib.hid (tapeL_none (one_no2 HCUT.out HNM.out (fun ⟨_, _, hz⟩ => c2 (by
                      rw [List.drop_drop, HTW.out] at hz
                      injection hz with _ hz
                      injection hz))))
                    clear HCUT HNM HTW c1 c2
                    go_wp2_with fail
                    go_ret2
                    exact ⟨_, _, _, rfl, HO, by show _ = _; rw [HC.out, HT.out, List.append_nil], HK, by omega, by omega, hb⟩
                · have q1 : ¬ ((A.toNat : Int) = 10) := by
                    intro h; exact c1 (UInt8.toNat_inj.1 (by have : ((10 : UInt8).toNat : Int) = 10 := rfl; omega))
                  have HT := Lib.hid (tapeL_none (one_no2 HCUT.out HNM.out (fun ⟨_, _, hz⟩ => c1 (by
                    rw [List.drop_drop, HTW.out] at hz
                    injection hz))))
                  clear HCUT HNM HTW c1
                  go_wp2_with fail
                  go_ret2
                  exact ⟨_, _, _, rfl, HO, by show _ = _; rw [HC.out, HT.out, List.append_nil], HK, by omega, by omega, hb⟩
              · have HT := Lib.hid (tapeL_none (one_no2 HCUT.out HNM.out (fun ⟨_, hz, _⟩ => h2 (by omega))))
                clear HCUT HNM
                have hI : ((s.size : Int) - q - 1 < (n : Int) + 2) := by omega
                go_wp2_with fail
                go_ret2
                exact ⟨_, _, _, rfl, HO, by show _ = _; rw [HC.out, HT.out, List.append_nil], HK, by omega, by omega, hb⟩
            · have HT := Lib.hid (tapeL_none (one_no2 HCUT.out HNM.out (fun ⟨hz, _, _⟩ => h1 hz)))
              clear HCUT HNM
              go_wp2_with fail
              go_ret2
              exact ⟨_, _, _, rfl, HO, by show _ = _; rw [HC.out, HT.out, List.append_nil], HK, by omega, by omega, hb⟩
        · have hq58 : ((s[q].toNat : Int) == 58) = false := by
            rw [beq_eq_false_iff_ne]; intro h; exact hc (UInt8.toNat_inj.1 (by have : ((58 : UInt8).toNat : Int) = 58 := rfl; omega))
          have HN2 := Lib.hid (HN.out.next hkq hlt hc)
          clear HN hc
          go_wp2_with fail
          go_roundw
          case rel => exact ⟨q + 1, by omega, by omega, by go_num, HN2, trivial⟩
          case measure => simp [intOf]; omega
      · obtain rfl : q = s.size := by omega
        have HT := Lib.hid (tapeL_none (one_miss HN.out))
        clear HN
        go_wp2_with fail
        go_ret2
        exact ⟨_, _, _, rfl, HO, by show _ = _; rw [HC.out, HT.out, List.append_nil], HK, by omega, by omega, hb⟩
end Go.Proofs.YtpafddeakanopaaDoor
