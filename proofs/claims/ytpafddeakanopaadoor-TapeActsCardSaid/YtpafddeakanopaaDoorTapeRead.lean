/- The tape's record, one and Read by their contracts. -/
import Derived.Test.YtpafddeakanopaaDoorTape
import Derived.Test.YtpafddeakanopaaDoorRow
import Derived.Test.YtpafddeakanopaaDoorOwn
import Derived.Test.YtpafddeakanopaaDoorStr
namespace Go.Proofs.YtpafddeakanopaaDoor
open Go Go.RowKit

/-- What the tape's functions read of the program's variables. -/
def TEnv (w : World) : Prop := AtoiEnv w ∧ PowTab w ∧ ∃ m, w.cell? ⟨14, 0, none⟩ = some (.int .i64 m)
theorem TEnv.ext {w w' : World} (h : TEnv w) (hb : Below w.heap.size w w') : TEnv w' := by
  obtain ⟨h1, h2, m, h3⟩ := h
  exact ⟨h1.ext hb, h2.ext hb, m, (hb.cell (show (⟨14, 0, none⟩ : Addr).block < w.heap.size from Lib.lt_of_cell h3)).trans h3⟩

theorem cut_len (l sep : List UInt8) : (Lib.cut l sep).1.length ≤ l.length ∧ (Lib.cut l sep).2.1.length ≤ l.length := by
  unfold Lib.cut
  split
  · constructor
    · simp; omega
    · simp
  · simp
theorem cut_any (s sep : ByteArray) (w : World) (hs : s.size ≤ 100000000) (hm : ∃ m, w.cell? ⟨14, 0, none⟩ = some (.int .i64 m)) :
    Calls Tryd.prog 63 #[.string s, .string sep] w fun e w' =>
      (∃ (a b : ByteArray) (c : Bool), e = .returned (.tuple #[.string a, .string b, .bool c]) ∧ Hid (Lib.cut (bl s) (bl sep) = (bl a, bl b, c)) ∧ a.size ≤ s.size ∧ b.size ≤ s.size) ∧ Below w.heap.size w w' := by
  obtain ⟨m, hm⟩ := hm
  refine (Tryd.strings_Cut s sep m w (by omega) hm).mono ?_
  rintro e w' ⟨rfl, n, rfl⟩
  have h := cut_len (bl s) (bl sep)
  rw [bl_length] at h
  exact ⟨⟨_, _, _, rfl, rfl, by rw [← bl_length]; exact h.1, by rw [← bl_length]; exact h.2⟩, below_drewN _ _ _⟩

set_option maxRecDepth 100000 in
theorem record_any (s : ByteArray) (w : World) (hs : s.size ≤ 100000000) (ht : PowTab w) :
    Calls Tryd.prog 45 #[.string s] w fun e w' => (∃ x : ByteArray, e = .returned (.string x) ∧ Hid (bl x = recL (bl s)) ∧ x.size ≤ s.size + 24) ∧ Below w.heap.size w w' := by
  have hsl : (bl s).length = s.size := bl_length s
  go_enter Tryd.func45, Tryd.ntmps45
  go_wp2_with fail
  refine (itoa_any s.size (by omega) w ht).mono ?_
  rintro e w1 ⟨t, rfl, HT, hts, hb⟩
  go_wp2_with fail
  go_ret
  refine ⟨⟨_, rfl, ?_, ?_⟩, hb⟩
  · show _ = _
    unfold recL
    rw [hsl, ← HT.out]
    simp [bl]
  · simp only [ByteArray.size_append]; have e1 : (⟨#[58]⟩ : ByteArray).size = 1 := rfl; have e2 : (⟨#[10, 46]⟩ : ByteArray).size = 2 := rfl; omega

/-- What 'one' answers. -/
def OneTold (o : Option (List UInt8)) (x : ByteArray) (ok : Bool) : Prop := (o = some (bl x) ∧ ok = true) ∨ (o = none ∧ ok = false ∧ x = ⟨#[]⟩)
def OnePost (b : ByteArray) (w : World) (e : Ending) (w' : World) : Prop :=
  ∃ (x : ByteArray) (ok : Bool), e = .returned (.tuple #[.string x, .bool ok]) ∧ Hid (OneTold (oneL (bl b)) x ok) ∧ x.size ≤ b.size ∧ Below w.heap.size w w'
theorem one_no {l a b : List UInt8} (h : Lib.cut l [58] = (a, b, true)) (hn : numOf a 9 = none) : oneL l = none := by
  unfold oneL; rw [h]; simp only [if_true]; rw [hn]
theorem one_no2 {l a b : List UInt8} {n : Nat} (h : Lib.cut l [58] = (a, b, true)) (hn : numOf a 9 = some n) (hx : ¬ (n ≤ 20000 ∧ n + 2 ≤ b.length ∧ (b.drop n).take 2 = [10, 46])) : oneL l = none := by
  unfold oneL; rw [h]; simp only [if_true]; rw [hn]; simp only; rw [if_neg hx]
theorem one_yes {l a b : List UInt8} {n : Nat} (h : Lib.cut l [58] = (a, b, true)) (hn : numOf a 9 = some n) (h1 : n ≤ 20000) (h2 : n + 2 ≤ b.length) (h3 : (b.drop n).take 2 = [10, 46]) : oneL l = some (b.take n) := by
  unfold oneL; rw [h]; simp only [if_true]; rw [hn]; simp only; rw [if_pos ⟨h1, h2, h3⟩]

set_option maxHeartbeats 1000000 in
set_option maxRecDepth 100000 in
theorem one_any (s : ByteArray) (w : World) (hs : s.size ≤ 100000000) (hE : TEnv w) :
    Calls Tryd.prog 47 #[.string s] w (OnePost s w) := by
  obtain ⟨ha0, ht0, hm0⟩ := hE
  go_enter Tryd.func47, Tryd.ntmps47
  go_wp2_with fail
  refine (cut_any s ⟨#[58]⟩ w hs hm0).mono ?_
  rintro e w1 ⟨⟨d, r, c, rfl, HC, hd, hr⟩, hb1⟩
  have ha := ha0.ext hb1
  have ht := ht0.ext hb1
  clear ha0 ht0 hm0
  go_wp2_with fail
  refine (atoi_any d w1 (by omega) ha).mono ?_
  rintro e w2 (⟨v, rfl, HV, hb⟩ | ⟨v, te, a, rfl, HV, hb⟩)
  · have hT1 := ht.ext hb
    have hv1 : v ≤ 9223372036854775807 := (Lib.atoiAll_bounds HV.out).2
    have hbb := hb1.trans (hb.mono hb1.size)
    clear ha ht
    cases c with
    | false =>
      have H : Hid (oneL (bl s) = none) := by show _ = _; unfold oneL; rw [show Lib.cut (bl s) [58] = _ from HC.out]; simp
      clear HC HV
      go_wp2_with fail
      go_ret2
      exact ⟨_, _, rfl, .inr ⟨H.out, rfl, rfl⟩, by show 0 ≤ _; omega, hbb⟩
    | true =>
      by_cases hl : d.size ≤ 9
      · by_cases hv : 0 ≤ v
        · obtain ⟨n, rfl⟩ : ∃ n : Nat, v = n := ⟨v.toNat, by omega⟩
          go_wp2_with fail
          refine (itoa_any n (by omega) w2 hT1).mono ?_
          rintro e w3 ⟨t, rfl, HT, _, hb2⟩
          have hbc := hbb.trans (hb2.mono hbb.size)
          clear hb hb1 hb2 hbb hT1
          by_cases hts : t = d
          · have q : (t.toList == d.toList) = true := str_same d t hts
            have HN : Hid (numOf (bl d) 9 = some n) := by
              have : bl d = Lib.decDigits n := by rw [← hts]; exact HT.out
              show _ = _
              rw [this]; exact numOf_dec n 9 (by rw [← this, bl_length]; exact hl)
            clear HV HT
            have hrl : (bl r).length = r.size := bl_length r
            by_cases h1 : n ≤ 20000
            · by_cases h2 : n + 2 ≤ r.size
              · have sl := slice_nat r n ((n : Int) + 2) n (n + 2) (by omega) h2 rfl (by omega)
                have hnr : n ≤ r.size := by omega
                by_cases h3 : r.extract n (n + 2) = ⟨#[10, 46]⟩
                · have H : Hid (oneL (bl s) = some (bl (r.extract 0 n))) := by
                    have hz : ((bl r).drop n).take 2 = [10, 46] := by
                      have := congrArg bl h3
                      rw [bl_extract] at this
                      rw [show n + 2 - n = 2 by omega] at this
                      exact this
                    show _ = _
                    rw [bl_extract, List.drop_zero, Nat.sub_zero]
                    exact one_yes HC.out HN.out h1 (by omega) hz
                  have q2 : ((r.extract n (n + 2)).toList == [10, 46]) = true := by
                    have h := str_same _ _ h3
                    rw [Lib.toList_data ⟨#[10, 46]⟩] at h
                    exact h
                  clear HC HN h3
                  have hx : (r.extract 0 n).size ≤ s.size := by simp; omega
                  go_wp2_with fail
                  go_ret2
                  exact ⟨_, _, rfl, .inl ⟨H.out, rfl⟩, hx, hbc⟩
                · have H : Hid (oneL (bl s) = none) := one_no2 HC.out HN.out (fun ⟨_, _, hz⟩ => h3 (bl_inj (by rw [bl_extract, show n + 2 - n = 2 by omega]; exact hz)))
                  have q2 : ((r.extract n (n + 2)).toList == [10, 46]) = false := by
                    have h := str_other _ _ h3
                    rw [Lib.toList_data ⟨#[10, 46]⟩] at h
                    exact h
                  clear HC HN h3
                  go_wp2_with fail
                  go_ret2
                  exact ⟨_, _, rfl, .inr ⟨H.out, rfl, rfl⟩, by show 0 ≤ _; omega, hbc⟩
              · have H : Hid (oneL (bl s) = none) := one_no2 HC.out HN.out (fun ⟨_, hz, _⟩ => h2 (by omega))
                clear HC HN
                go_wp2_with fail
                go_ret2
                exact ⟨_, _, rfl, .inr ⟨H.out, rfl, rfl⟩, by show 0 ≤ _; omega, hbc⟩
            · have H : Hid (oneL (bl s) = none) := one_no2 HC.out HN.out (fun ⟨hz, _, _⟩ => h1 hz)
              clear HC HN
              go_wp2_with fail
              go_ret2
              exact ⟨_, _, rfl, .inr ⟨H.out, rfl, rfl⟩, by show 0 ≤ _; omega, hbc⟩
          · have q : (t.toList == d.toList) = false := str_other d t hts
            have H : Hid (oneL (bl s) = none) := one_no HC.out (num_no (by decide) fun m h1 h2 h3 => hts (by
              have h4 := HV.out
              rw [h3] at h4
              have h5 : (m : Int) = n := by injection h4
              have h6 : m = n := by omega
              rw [h6] at h1
              exact bl_inj (by rw [HT.out, h1])))
            clear HC HV HT
            go_wp2_with fail
            go_ret2
            exact ⟨_, _, rfl, .inr ⟨H.out, rfl, rfl⟩, by show 0 ≤ _; omega, hbc⟩
        · have H : Hid (oneL (bl s) = none) := one_no HC.out (num_no (by decide) fun m h1 h2 h3 => by
            have h4 := HV.out
            rw [h3] at h4
            have h5 : (m : Int) = v := by injection h4
            omega)
          clear HC HV
          go_wp2_with fail
          go_ret2
          exact ⟨_, _, rfl, .inr ⟨H.out, rfl, rfl⟩, by show 0 ≤ _; omega, hbb⟩
      · have H : Hid (oneL (bl s) = none) := one_no HC.out (num_no (by decide) fun m h1 h2 h3 => by rw [bl_length] at h2; omega)
        clear HC HV
        go_wp2_with fail
        go_ret2
        exact ⟨_, _, rfl, .inr ⟨H.out, rfl, rfl⟩, by show 0 ≤ _; omega, hbb⟩
  · have hbb := hb1.trans (hb.mono hb1.size)
    clear ha ht
    have H : Hid (oneL (bl s) = none) := by
      cases c with
      | false => show _ = _; unfold oneL; rw [show Lib.cut (bl s) [58] = _ from HC.out]; simp
      | true => exact one_no HC.out (num_no (by decide) fun m h1 h2 h3 => HV.out _ h3)
    clear HC HV
    cases c with
    | false =>
      go_wp2_with fail
      go_ret2
      exact ⟨_, _, rfl, .inr ⟨H.out, rfl, rfl⟩, by show 0 ≤ _; omega, hbb⟩
    | true =>
      go_wp2_with fail
      go_ret2
      exact ⟨_, _, rfl, .inr ⟨H.out, rfl, rfl⟩, by show 0 ≤ _; omega, hbb⟩
end Go.Proofs.YtpafddeakanopaaDoor
