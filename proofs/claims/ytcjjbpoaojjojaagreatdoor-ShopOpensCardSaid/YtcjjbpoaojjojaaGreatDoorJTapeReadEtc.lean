/- The tape's record, one and Read by their contracts. The tape's Read, Append and Recover by their contracts. The reference's ReadTape by its contract. -/
import Derived.Test.YtcjjbpoaojjojaaGreatDoorJTapeBufEtc
import Derived.Test.YtcjjbpoaojjojaaGreatDoorJRowedEtc
import Derived.Test.YtcjjbpoaojjojaaGreatDoorJSummed
namespace Go.Proofs.YtcjjbpoaojjojaaGreatDoor
open Go Go.RowKit

/-- What the tape's functions read of the program's variables. -/
def TEnv (w : World) : Prop := AtoiEnv w ∧ PowTab w ∧ ∃ m, w.cell? ⟨14, 0, none⟩ = some (.int .i64 m)
theorem TEnv.ext {w w' : World} (h : TEnv w) (hb : Below w.heap.size w w') : TEnv w' := by
  obtain ⟨h1, h2, m, h3⟩ := h
  exact ⟨h1.ext hb, h2.ext hb, m, (hb.cell (show (⟨14, 0, none⟩ : Addr).block < w.heap.size from Lib.lt_of_cell h3)).trans h3⟩

theorem cut_len (l sep : List UInt8) : (Lib.cut l sep).1.length ≤ l.length ∧ (Lib.cut l sep).2.1.length ≤ l.length := by
  unfold Lib.cut
  split
  · constructor
    · simp; omega
    · simp
  · simp
theorem cutSep_any (s sep : ByteArray) (w : World) (hs : s.size ≤ 100000000) (hm : ∃ m, w.cell? ⟨14, 0, none⟩ = some (.int .i64 m)) :
    Calls Tryz.prog 87 #[.string s, .string sep] w fun e w' =>
      (∃ (a b : ByteArray) (c : Bool), e = .returned (.tuple #[.string a, .string b, .bool c]) ∧ Hid (Lib.cut (bl s) (bl sep) = (bl a, bl b, c)) ∧ a.size ≤ s.size ∧ b.size ≤ s.size) ∧ Below w.heap.size w w' := by
  obtain ⟨m, hm⟩ := hm
  refine (Tryz.strings_Cut s sep m w (by omega) hm).mono ?_
  rintro e w' ⟨rfl, n, rfl⟩
  have h := cut_len (bl s) (bl sep)
  rw [bl_length] at h
  exact ⟨⟨_, _, _, rfl, rfl, by rw [← bl_length]; exact h.1, by rw [← bl_length]; exact h.2⟩, below_drewN _ _ _⟩

set_option maxRecDepth 100000 in
theorem record_any (s : ByteArray) (w : World) (hs : s.size ≤ 100000000) (ht : PowTab w) :
    Calls Tryz.prog 158 #[.string s] w fun e w' => (∃ x : ByteArray, e = .returned (.string x) ∧ Hid (bl x = recL (bl s)) ∧ x.size ≤ s.size + 24) ∧ Below w.heap.size w w' := by
  have hsl : (bl s).length = s.size := bl_length s
  go_enter Tryz.func158, Tryz.ntmps158
  go_wp2_with fail
  refine (itoa_any s.size (by omega) w ht).mono ?_
  rintro e w1 ⟨t, rfl, HT, hts, hb⟩
  go_wp2_with fail
  go_ret
  refine ⟨⟨_, rfl, ?_, ?_⟩, hb⟩
  · show _ = _
    unfold recL
    rw [hsl, ← HT.out]
    simp [bl]
  · simp only [ByteArray.size_append]; have e1 : (⟨#[58]⟩ : ByteArray).size = 1 := rfl; have e2 : (⟨#[10, 46]⟩ : ByteArray).size = 2 := rfl; omega

/-- What 'one' answers. -/
def OneTold (o : Option (List UInt8)) (x : ByteArray) (ok : Bool) : Prop := (o = some (bl x) ∧ ok = true) ∨ (o = none ∧ ok = false ∧ x = ⟨#[]⟩)
def OnePostT (b : ByteArray) (w : World) (e : Ending) (w' : World) : Prop :=
  ∃ (x : ByteArray) (ok : Bool), e = .returned (.tuple #[.string x, .bool ok]) ∧ Hid (OneTold (oneL (bl b)) x ok) ∧ x.size ≤ b.size ∧ Below w.heap.size w w'
theorem one_no {l a b : List UInt8} (h : Lib.cut l [58] = (a, b, true)) (hn : numOf a 9 = none) : oneL l = none := by
  unfold oneL; rw [h]; simp only [if_true]; rw [hn]
theorem one_no2 {l a b : List UInt8} {n : Nat} (h : Lib.cut l [58] = (a, b, true)) (hn : numOf a 9 = some n) (hx : ¬ (n ≤ 20000 ∧ n + 2 ≤ b.length ∧ (b.drop n).take 2 = [10, 46])) : oneL l = none := by
  unfold oneL; rw [h]; simp only [if_true]; rw [hn]; simp only; rw [if_neg hx]
theorem one_yes {l a b : List UInt8} {n : Nat} (h : Lib.cut l [58] = (a, b, true)) (hn : numOf a 9 = some n) (h1 : n ≤ 20000) (h2 : n + 2 ≤ b.length) (h3 : (b.drop n).take 2 = [10, 46]) : oneL l = some (b.take n) := by
  unfold oneL; rw [h]; simp only [if_true]; rw [hn]; simp only; rw [if_pos ⟨h1, h2, h3⟩]

set_option maxHeartbeats 1000000 in
set_option maxRecDepth 100000 in
theorem tapeOne_any (s : ByteArray) (w : World) (hs : s.size ≤ 100000000) (hE : TEnv w) :
    Calls Tryz.prog 161 #[.string s] w (OnePostT s w) := by
  obtain ⟨ha0, ht0, hm0⟩ := hE
  go_enter Tryz.func161, Tryz.ntmps161
  go_wp2_with fail
  refine (cutSep_any s ⟨#[58]⟩ w hs hm0).mono ?_
  rintro e w1 ⟨⟨d, r, c, rfl, HC, hd, hr⟩, hb1⟩
  have ha := ha0.ext hb1
  have ht := ht0.ext hb1
  clear ha0 ht0 hm0
  go_wp2_with fail
  refine (atoi_any d w1 (by omega) ha).mono ?_
  rintro e w2 (⟨v, rfl, HV, hb⟩ | ⟨v, te, a, rfl, HV, hb⟩)
  · have hT1 := ht.ext hb
    have hv1 : v ≤ 9223372036854775807 := (Lib.atoiAll_bounds HV.out).2
    have hbb := hb1.trans (hb.mono hb1.size)
    clear ha ht
    cases c with
    | false =>
      have H : Hid (oneL (bl s) = none) := by show _ = _; unfold oneL; rw [show Lib.cut (bl s) [58] = _ from HC.out]; simp
      clear HC HV
      go_wp2_with fail
      go_ret2
      exact ⟨_, _, rfl, .inr ⟨H.out, rfl, rfl⟩, by show 0 ≤ _; omega, hbb⟩
    | true =>
      by_cases hl : d.size ≤ 9
      · by_cases hv : 0 ≤ v
        · obtain ⟨n, rfl⟩ : ∃ n : Nat, v = n := ⟨v.toNat, by omega⟩
          go_wp2_with fail
          refine (itoa_any n (by omega) w2 hT1).mono ?_
          rintro e w3 ⟨t, rfl, HT, _, hb2⟩
          have hbc := hbb.trans (hb2.mono hbb.size)
          clear hb hb1 hb2 hbb hT1
          by_cases hts : t = d
          · have q : (t.toList == d.toList) = true := str_same d t hts
            have HN : Hid (numOf (bl d) 9 = some n) := by
              have : bl d = Lib.decDigits n := by rw [← hts]; exact HT.out
              show _ = _
              rw [this]; exact numOf_dec n 9 (by rw [← this, bl_length]; exact hl)
            clear HV HT
            have hrl : (bl r).length = r.size := bl_length r
            by_cases h1 : n ≤ 20000
            · by_cases h2 : n + 2 ≤ r.size
              · have sl := slice_nat r n ((n : Int) + 2) n (n + 2) (by omega) h2 rfl (by omega)
                have hnr : n ≤ r.size := by omega
                by_cases h3 : r.extract n (n + 2) = ⟨#[10, 46]⟩
                · have H : Hid (oneL (bl s) = some (bl (r.extract 0 n))) := by
                    have hz : ((bl r).drop n).take 2 = [10, 46] := by
                      have := congrArg bl h3
                      rw [bl_extract] at this
                      rw [show n + 2 - n = 2 by omega] at this
                      exact this
                    show _ = _
                    rw [bl_extract, List.drop_zero, Nat.sub_zero]
                    exact one_yes HC.out HN.out h1 (by omega) hz
                  have q2 : ((r.extract n (n + 2)).toList == [10, 46]) = true := by
                    have h := str_same _ _ h3
                    rw [Lib.toList_data ⟨#[10, 46]⟩] at h
                    exact h
                  clear HC HN h3
                  have hx : (r.extract 0 n).size ≤ s.size := by simp; omega
                  go_wp2_with fail
                  go_ret2
                  exact ⟨_, _, rfl, .inl ⟨H.out, rfl⟩, hx, hbc⟩
                · have H : Hid (oneL (bl s) = none) := one_no2 HC.out HN.out (fun ⟨_, _, hz⟩ => h3 (bl_inj (by rw [bl_extract, show n + 2 - n = 2 by omega]; exact hz)))
                  have q2 : ((r.extract n (n + 2)).toList == [10, 46]) = false := by
                    have h := str_other _ _ h3
                    rw [Lib.toList_data ⟨#[10, 46]⟩] at h
                    exact h
                  clear HC HN h3
                  go_wp2_with fail
                  go_ret2
                  exact ⟨_, _, rfl, .inr ⟨H.out, rfl, rfl⟩, by show 0 ≤ _; omega, hbc⟩
              · have H : Hid (oneL (bl s) = none) := one_no2 HC.out HN.out (fun ⟨_, hz, _⟩ => h2 (by omega))
                clear HC HN
                go_wp2_with fail
                go_ret2
                exact ⟨_, _, rfl, .inr ⟨H.out, rfl, rfl⟩, by show 0 ≤ _; omega, hbc⟩
            · have H : Hid (oneL (bl s) = none) := one_no2 HC.out HN.out (fun ⟨hz, _, _⟩ => h1 hz)
              clear HC HN
              go_wp2_with fail
              go_ret2
              exact ⟨_, _, rfl, .inr ⟨H.out, rfl, rfl⟩, by show 0 ≤ _; omega, hbc⟩
          · have q : (t.toList == d.toList) = false := str_other d t hts
            have H : Hid (oneL (bl s) = none) := one_no HC.out (num_no (by decide) fun m h1 h2 h3 => hts (by
              have h4 := HV.out
              rw [h3] at h4
              have h5 : (m : Int) = n := by injection h4
              have h6 : m = n := by omega
              rw [h6] at h1
              exact bl_inj (by rw [HT.out, h1])))
            clear HC HV HT
            go_wp2_with fail
            go_ret2
            exact ⟨_, _, rfl, .inr ⟨H.out, rfl, rfl⟩, by show 0 ≤ _; omega, hbc⟩
        · have H : Hid (oneL (bl s) = none) := one_no HC.out (num_no (by decide) fun m h1 h2 h3 => by
            have h4 := HV.out
            rw [h3] at h4
            have h5 : (m : Int) = v := by injection h4
            omega)
          clear HC HV
          go_wp2_with fail
          go_ret2
          exact ⟨_, _, rfl, .inr ⟨H.out, rfl, rfl⟩, by show 0 ≤ _; omega, hbb⟩
      · have H : Hid (oneL (bl s) = none) := one_no HC.out (num_no (by decide) fun m h1 h2 h3 => by rw [bl_length] at h2; omega)
        clear HC HV
        go_wp2_with fail
        go_ret2
        exact ⟨_, _, rfl, .inr ⟨H.out, rfl, rfl⟩, by show 0 ≤ _; omega, hbb⟩
  · have hbb := hb1.trans (hb.mono hb1.size)
    clear ha ht
    have H : Hid (oneL (bl s) = none) := by
      cases c with
      | false => show _ = _; unfold oneL; rw [show Lib.cut (bl s) [58] = _ from HC.out]; simp
      | true => exact one_no HC.out (num_no (by decide) fun m h1 h2 h3 => HV.out _ h3)
    clear HC HV
    cases c with
    | false =>
      go_wp2_with fail
      go_ret2
      exact ⟨_, _, rfl, .inr ⟨H.out, rfl, rfl⟩, by show 0 ≤ _; omega, hbb⟩
    | true =>
      go_wp2_with fail
      go_ret2
      exact ⟨_, _, rfl, .inr ⟨H.out, rfl, rfl⟩, by show 0 ≤ _; omega, hbb⟩
end Go.Proofs.YtcjjbpoaojjojaaGreatDoor

namespace Go.Proofs.YtcjjbpoaojjojaaGreatDoor
open Go Go.RowKit

theorem Tryz.infoStrT : (Tryz.prog.info? 9).map (fun i => (i.zero, i.size, i.bytes)) = some (some (.string ⟨#[]⟩), 1, 16) := by kernel_rfl

/-- What Read hands back. -/
def ReadPostT (l : List UInt8) (w : World) (e : Ending) (w' : World) : Prop :=
  ∃ (v : Value) (zs : List ByteArray) (n : Nat), e = .returned (.tuple #[v, .int .i64 n]) ∧ Hid (w'.ownsRow w.heap.size 9 1 v zs.length (zs.flatMap encStr)) ∧ Hid (zs.map bl = tapeL l) ∧ Hid (n = (recsL (zs.map bl)).length) ∧ n ≤ l.length ∧ zs.length ≤ l.length ∧ Below w.heap.size w w'

set_option maxHeartbeats 2000000 in
set_option maxRecDepth 100000 in
theorem read_any (s : ByteArray) (w : World) (hs : s.size ≤ 10000000) (hE : TEnv w) :
    Calls Tryz.prog 85 #[.string s] w (ReadPostT (bl s) w) := by
  obtain ⟨i0, hi0, hz0, hz1, hz2⟩ := info_parts Tryz.infoStrT
  have HE := Lib.hid hE
  clear hE
  have hsl : (bl s).length = s.size := bl_length s
  go_enter Tryz.func85, Tryz.ntmps85
  go_wp2_with fail
  go_loopw [4, 5] (fun v i wr => ∃ (k : Nat) (acc : List ByteArray), k ≤ s.size ∧ i = .int .i64 k ∧ acc.length ≤ k ∧ Hid (tapeL (bl s) = acc.map bl ++ tapeL ((bl s).drop k)) ∧ Hid (k = (recsL (acc.map bl)).length) ∧
      Hid (wr.ownsRow w.heap.size 9 1 v acc.length (acc.flatMap encStr)) ∧ Below w.heap.size w wr) (fun _ i _ => s.size - (intOf i).toNat)
  case atStart => exact ⟨0, [], Nat.zero_le _, rfl, Nat.le_refl _, rfl, rfl, World.ownsRow_nil _ _ _ _, Below.refl _ _⟩
  case round =>
    obtain ⟨k, acc, hk, rfl, hacc, HC, HK, HO, hb⟩ := hrel
    have sl := slice_from s k k hk rfl
    have hx : (s.extract k s.size).size ≤ 100000000 := by simp; omega
    have hxl : Hid (bl (s.extract k s.size) = (bl s).drop k) := by
      show _ = _; rw [bl_extract, List.take_of_length_le (by rw [List.length_drop]; omega)]
    go_wp2_with fail
    refine (tapeOne_any (s.extract k s.size) _ hx (HE.out.ext hb)).mono ?_
    rintro e w2 ⟨x, ok, rfl, HT, hxs, hb2⟩
    have hb3 := hb.trans (hb2.mono hb.size)
    have HO2 := Lib.hid (owns_below HO.out hb2)
    clear HO
    rcases HT.out with ⟨ho, rfl⟩ | ⟨ho, rfl, rfl⟩
    · rw [hxl.out] at ho
      have h2 := oneL_ne ho
      have hx20 : x.size ≤ 20000 := by have := (oneL_inv ho).1; rw [bl_length] at this; exact this
      have HS := Lib.hid (tapeL_some ho)
      have hp := recL_pos (bl x)
      simp only [List.length_drop] at h2
      clear HT hxl ho
      go_wp2_with (at_builtin; refine wpList_append_own _ rfl _ _ 22 rfl w.heap.size 9 i0 (.string ⟨#[]⟩) 1 16 Tryz.underlying22 hi0 hz0 hz1 hz2 rfl (by decide) _ _ _ rfl (HO2.out.alloc _) ⟨w2.heap.size, 0, none⟩ 1 1 (encStr x) rfl rfl ?c1 ?c2 ?c3 ?c4 ?c5 ?_)
      case c1 =>
        intro j u hj
        match j, hj with
        | 0, hj => simp at hj; subst hj; simp [Addr.add]
      case c2 => intro u hu; simp at hu; subst hu; rfl
      case c3 => unfold maxLen; omega
      case c4 => omega
      case c5 => have := hb3.size; simp; omega
      intro v' w3 hown' hgrow _
      have hown2 : Hid (w3.ownsRow w.heap.size 9 1 v' (acc ++ [x]).length ((acc ++ [x]).flatMap encStr)) := by
        show World.ownsRow _ _ _ _ _ _ _
        simpa using hown'
      have hbb : Below w.heap.size w w3 := (hb3.alloc hb3.size _).grown hgrow (by have := hb3.size; simp; omega) (fun g hg => (HO2.out.lt g hg).1)
      have HP := Lib.hid (HE.out.ext hbb).2.1
      clear hown' hgrow HO2 hb3 hb
      go_wp2_with fail
      refine (record_any x _ (by omega) HP.out).mono ?_
      rintro e w4 ⟨⟨y, rfl, HY, hy⟩, hb4⟩
      have hbc := hbb.trans (hb4.mono hbb.size)
      have hyl : y.size = (recL (bl x)).length := by rw [← HY.out, bl_length]
      have hown3 := Lib.hid (owns_below hown2.out hb4)
      clear HY hown2 HP
      go_wp2_with fail
      go_roundw
      case rel =>
        refine ⟨k + y.size, acc ++ [x], by omega, by go_num, by simp; omega, ?_, ?_, hown3, hbc⟩
        · show _ = _
          rw [HC.out, HS.out, List.map_append, List.append_assoc, List.drop_drop, hyl]; rfl
        · show _ = _
          rw [List.map_append, List.map_singleton, recsL_snoc, List.length_append, ← HK.out, hyl]
      case measure => simp [intOf]; omega
    · have HN : Hid (tapeL ((bl s).drop k) = []) := by rw [hxl.out] at ho; exact tapeL_none ho
      clear HT hxl ho
      go_wp2_with fail
      go_ret2
      exact ⟨_, _, _, rfl, HO2, by show _ = _; rw [HC.out, HN.out, List.append_nil], HK, by omega, by omega, hb3⟩
end Go.Proofs.YtcjjbpoaojjojaaGreatDoor

namespace Go.Proofs.YtcjjbpoaojjojaaGreatDoor
open Go Go.RowKit

/-- No colon from k on to q. -/
def NoColon (s : ByteArray) (k q : Nat) : Prop := (58 : UInt8) ∉ ((bl s).drop k).take (q - k)
theorem NoColon.next {s : ByteArray} {k q : Nat} (h : NoColon s k q) (hk : k ≤ q) (hq : q < s.size) (hc : s[q] ≠ 58) : NoColon s k (q + 1) := by
  unfold NoColon at h ⊢
  have hql : q - k < ((bl s).drop k).length := by rw [List.length_drop, bl_length]; omega
  rw [show q + 1 - k = (q - k) + 1 by omega, List.take_add_one, List.getElem?_eq_getElem hql]
  intro hm
  rcases List.mem_append.1 hm with hm | hm
  · exact h hm
  · simp only [Option.toList_some, List.mem_singleton] at hm
    rw [List.getElem_drop] at hm
    have : (bl s)[k + (q - k)]'(by rw [bl_length]; omega) = s[q] := by
      have e : k + (q - k) = q := by omega
      simp only [e]
      rfl
    rw [this] at hm
    exact hc hm.symm
theorem one_miss {s : ByteArray} {k : Nat} (h : NoColon s k s.size) : oneL ((bl s).drop k) = none := by
  have : (58 : UInt8) ∉ (bl s).drop k := by
    unfold NoColon at h
    rwa [List.take_of_length_le (by rw [List.length_drop, bl_length]; omega)] at h
  unfold oneL; rw [cut_miss this]; simp
theorem cut_colon {s : ByteArray} {k q : Nat} (h : NoColon s k q) (hk : k ≤ q) (hq : q < s.size) (hc : s[q] = 58) : Lib.cut ((bl s).drop k) [58] = (bl (s.extract k q), (bl s).drop (q + 1), true) := by
  have e : (bl s).drop k = bl (s.extract k q) ++ 58 :: (bl s).drop (q + 1) := by
    rw [bl_extract]
    have h1 : (bl s).drop k = ((bl s).drop k).take (q - k) ++ ((bl s).drop k).drop (q - k) := (List.take_append_drop _ _).symm
    rw [List.drop_drop, show k + (q - k) = q by omega, drop_cons s q hq, hc] at h1
    exact h1
  rw [e]
  refine cut_hit ?_
  rw [bl_extract]
  exact h

theorem two_at (s : ByteArray) (a : Nat) (h : a + 1 < s.size) : ((bl s).drop a).take 2 = [s[a], s[a + 1]] := by
  rw [drop_cons s a (by omega), drop_cons s (a + 1) h]; rfl

set_option maxHeartbeats 4000000 in
set_option maxRecDepth 100000 in
theorem readTape_any (s : ByteArray) (w : World) (hs : s.size ≤ 10000000) :
    Calls Tryz.prog 98 #[.string s] w (ReadPostT (bl s) w) := by
  obtain ⟨i0, hi0, hz0, hz1, hz2⟩ := info_parts Tryz.infoStrT
  have hsl : (bl s).length = s.size := bl_length s
  go_enter Tryz.func98, Tryz.ntmps98
  go_wp2_with fail
  go_loopw [4, 5, 6] (fun v i _ wr => ∃ (k : Nat) (acc : List ByteArray), k ≤ s.size ∧ i = .int .i64 k ∧ acc.length ≤ k ∧ Hid (tapeL (bl s) = acc.map bl ++ tapeL ((bl s).drop k)) ∧ Hid (k = (recsL (acc.map bl)).length) ∧
      Hid (wr.ownsRow w.heap.size 9 1 v acc.length (acc.flatMap encStr)) ∧ Below w.heap.size w wr) (fun _ i _ _ => s.size - (intOf i).toNat)
  case atStart => exact ⟨0, [], Nat.zero_le _, rfl, Nat.le_refl _, rfl, rfl, World.ownsRow_nil _ _ _ _, Below.refl _ _⟩
  case round =>
    obtain ⟨k, acc, hk, rfl, hacc, HC, HK, HO, hb⟩ := hrel
    go_wp2_with fail
    go_loopw [6] (fun j wi => ∃ q : Nat, k ≤ q ∧ q ≤ s.size ∧ j = .int .i64 q ∧ Hid (NoColon s k q) ∧ wi = wr) (fun j _ => s.size - (intOf j).toNat)
    case atStart => exact ⟨k, Nat.le_refl _, hk, rfl, by show (58 : UInt8) ∉ _; simp, rfl⟩
    case round =>
      obtain ⟨q, hkq, hq, rfl, HN, rfl⟩ := hrel
      by_cases hlt : q < s.size
      · have ix : ∀ W : World, (Instr.index 9 (.string s) (.int .i64 (q : Int))).run Tryz.prog W = .ok (.int .u8 s[q].toNat) W := index_nat s q q hlt rfl
        by_cases hc : s[q] = 58
        · have HCUT := Lib.hid (cut_colon HN.out hkq hlt hc)
          have hq58 : ((s[q].toNat : Int) == 58) = true := by rw [hc]; rfl
          have sl := slice_nat s k q k q hkq hq rfl rfl
          have hx : (s.extract k q).size ≤ 281474976710656 := by simp; omega
          have C := Lib.hid (fun W => numberOf_any (s.extract k q) 9 (by decide) W hx)
          clear HN hc
          go_wp2_with fail
          refine (C.out _).mono ?_
          clear C
          rintro e w2 ⟨rfl, rfl⟩
          cases hn : numOf (bl (s.extract k q)) 9 with
          | none =>
            have HT := Lib.hid (tapeL_none (one_no HCUT.out hn))
            clear hn HCUT
            go_wp2_with fail
            go_ret2
            exact ⟨_, _, _, rfl, HO, by show _ = _; rw [HC.out, HT.out, List.append_nil], HK, by omega, by omega, hb⟩
          | some n =>
            have HNM := Lib.hid hn
            clear hn
            rw [show numI (some n) = (n : Int) from rfl]
            have hdl : ((bl s).drop (q + 1)).length = s.size - (q + 1) := by rw [List.length_drop, bl_length]
            by_cases h1 : n ≤ 20000
            · by_cases h2 : n + 2 ≤ s.size - (q + 1)
              · have i1 := index_nat s ((q : Int) + 1 + n) (q + 1 + n) (by omega) (by omega)
                have i2 := index_nat s ((q : Int) + 2 + n) (q + 1 + n + 1) (by omega) (by omega)
                have s2 := slice_nat s ((q : Int) + 1) ((q : Int) + 1 + n) (q + 1) (q + 1 + n) (by omega) (by omega) (by omega) (by omega)
                have HTW := Lib.hid (two_at s (q + 1 + n) (by omega))
                generalize hA : s[q + 1 + n]'(by omega) = A at i1 HTW
                generalize hB : s[q + 1 + n + 1]'(by omega) = Bb at i2 HTW
                clear hA hB
                by_cases c1 : A = 10
                · have q1 : (A.toNat : Int) = 10 := by rw [c1]; rfl
                  by_cases c2 : Bb = 46
                  · have q2 : (Bb.toNat : Int) = 46 := by rw [c2]; rfl
                    have ho : oneL ((bl s).drop k) = some (bl (s.extract (q + 1) (q + 1 + n))) := by
                      rw [bl_extract, show q + 1 + n - (q + 1) = n by omega]
                      refine one_yes HCUT.out HNM.out h1 (by omega) ?_
                      rw [List.drop_drop, HTW.out, c1, c2]
                    have HS := Lib.hid (tapeL_some ho)
                    have hxs : (s.extract (q + 1) (q + 1 + n)).size = n := by simp; omega
                    have hrl : (recL (bl (s.extract (q + 1) (q + 1 + n)))).length = q + 3 + n - k := by
                      have hd := (numOf_some HNM.out).1
                      have hd2 := congrArg List.length hd
                      rw [bl_length, ByteArray.size_extract] at hd2
                      rw [recL_len, bl_length, hxs]
                      omega
                    have HRL := Lib.hid hrl
                    generalize hX : s.extract (q + 1) (q + 1 + n) = X at s2 HS HRL
                    clear hX ho hrl hxs c1 c2 HTW HCUT HNM ix hq58 sl
                    go_wp2_with (at_builtin; refine wpList_append_own _ rfl _ _ 22 rfl w.heap.size 9 i0 (.string ⟨#[]⟩) 1 16 Tryz.underlying22 hi0 hz0 hz1 hz2 rfl (by decide) _ _ _ rfl (HO.out.alloc _) ⟨wr.heap.size, 0, none⟩ 1 1 (encStr X) rfl rfl ?c1 ?c2 ?c3 ?c4 ?c5 ?_)
                    case c1 =>
                      intro j u hj
                      match j, hj with
                      | 0, hj => simp at hj; subst hj; simp [Addr.add]
                    case c2 => intro u hu; simp at hu; subst hu; rfl
                    case c3 => unfold maxLen; omega
                    case c4 => omega
                    case c5 => have := hb.size; simp; omega
                    intro v' w3 hown' hgrow _
                    have hown2 : Hid (w3.ownsRow w.heap.size 9 1 v' (acc ++ [X]).length ((acc ++ [X]).flatMap encStr)) := by
                      show World.ownsRow _ _ _ _ _ _ _
                      simpa using hown'
                    have hbb : Below w.heap.size w w3 := (hb.alloc hb.size _).grown hgrow (by have := hb.size; simp; omega) (fun g hg => (HO.out.lt g hg).1)
                    clear hown' hgrow HO hb
                    go_wp2_with fail
                    go_roundw
                    case rel =>
                      refine ⟨q + 3 + n, acc ++ [X], by omega, by go_num, by simp; omega, ?_, ?_, hown2, hbb⟩
                      · show _ = _
                        rw [HC.out, HS.out, List.map_append, List.append_assoc, List.drop_drop, HRL.out, show k + (q + 3 + n - k) = q + 3 + n by omega]; rfl
                      · show _ = _
                        rw [List.map_append, List.map_singleton, recsL_snoc, List.length_append, ← HK.out, HRL.out]; omega
                    case measure => simp [intOf]; omega
                  · have q2 : ¬ ((Bb.toNat : Int) = 46) := by
                      intro h; exact c2 (UInt8.toNat_inj.1 (by have : ((46 : UInt8).toNat : Int) = 46 := rfl; omega))
                    have HT := Lib.hid (tapeL_none (one_no2 HCUT.out HNM.out (fun ⟨_, _, hz⟩ => c2 (by
                      rw [List.drop_drop, HTW.out] at hz
                      injection hz with _ hz
                      injection hz))))
                    clear HCUT HNM HTW c1 c2
                    go_wp2_with fail
                    go_ret2
                    exact ⟨_, _, _, rfl, HO, by show _ = _; rw [HC.out, HT.out, List.append_nil], HK, by omega, by omega, hb⟩
                · have q1 : ¬ ((A.toNat : Int) = 10) := by
                    intro h; exact c1 (UInt8.toNat_inj.1 (by have : ((10 : UInt8).toNat : Int) = 10 := rfl; omega))
                  have HT := Lib.hid (tapeL_none (one_no2 HCUT.out HNM.out (fun ⟨_, _, hz⟩ => c1 (by
                    rw [List.drop_drop, HTW.out] at hz
                    injection hz))))
                  clear HCUT HNM HTW c1
                  go_wp2_with fail
                  go_ret2
                  exact ⟨_, _, _, rfl, HO, by show _ = _; rw [HC.out, HT.out, List.append_nil], HK, by omega, by omega, hb⟩
              · have HT := Lib.hid (tapeL_none (one_no2 HCUT.out HNM.out (fun ⟨_, hz, _⟩ => h2 (by omega))))
                clear HCUT HNM
                have hI : ((s.size : Int) - q - 1 < (n : Int) + 2) := by omega
                go_wp2_with fail
                go_ret2
                exact ⟨_, _, _, rfl, HO, by show _ = _; rw [HC.out, HT.out, List.append_nil], HK, by omega, by omega, hb⟩
            · have HT := Lib.hid (tapeL_none (one_no2 HCUT.out HNM.out (fun ⟨hz, _, _⟩ => h1 hz)))
              clear HCUT HNM
              go_wp2_with fail
              go_ret2
              exact ⟨_, _, _, rfl, HO, by show _ = _; rw [HC.out, HT.out, List.append_nil], HK, by omega, by omega, hb⟩
        · have hq58 : ((s[q].toNat : Int) == 58) = false := by
            rw [beq_eq_false_iff_ne]; intro h; exact hc (UInt8.toNat_inj.1 (by have : ((58 : UInt8).toNat : Int) = 58 := rfl; omega))
          have HN2 := Lib.hid (HN.out.next hkq hlt hc)
          clear HN hc
          go_wp2_with fail
          go_roundw
          case rel => exact ⟨q + 1, by omega, by omega, by go_num, HN2, trivial⟩
          case measure => simp [intOf]; omega
      · obtain rfl : q = s.size := by omega
        have HT := Lib.hid (tapeL_none (one_miss HN.out))
        clear HN
        go_wp2_with fail
        go_ret2
        exact ⟨_, _, _, rfl, HO, by show _ = _; rw [HC.out, HT.out, List.append_nil], HK, by omega, by omega, hb⟩
end Go.Proofs.YtcjjbpoaojjojaaGreatDoor
