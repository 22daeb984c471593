/- chandlerylaw1.SumJoins: the walk. -/
import Derived.Test.YtkglpgbpfngafaaDoorSumRead
import Derived.Test.YtkglpgbpfngafaaDoorStr
import Derived.Lib.SlBytesRow
namespace Go.Proofs.YtkglpgbpfngafaaDoor
open Go Go.RowKit

/-- A text with one byte another one. -/
def setB (s : ByteArray) (k : Nat) (x : Nat) : ByteArray := ⟨(s.data.toList.set k (UInt8.ofNat x)).toArray⟩
theorem setB_bl (s : ByteArray) (k x : Nat) : bl (setB s k x) = (bl s).set k (UInt8.ofNat x) := rfl
theorem setB_size (s : ByteArray) (k x : Nat) : (setB s k x).size = s.size := by
  rw [← bl_length, setB_bl, List.length_set, bl_length]
theorem sum_set (s : ByteArray) (k x : Nat) (h : k < s.size) (hx : x < 256) (hne : s[k].toNat ≠ x) (q : List UInt8) : sumL ((bl s).set k (UInt8.ofNat x) ++ q) ≠ sumL (bl s ++ q) := by
  have hk : k < (bl s).length := by rw [bl_length]; exact h
  have e1 : bl s = (bl s).take k ++ (s[k]'h) :: (bl s).drop (k + 1) := by
    rw [← drop_cons s k h, List.take_append_drop]
  have e2 : (bl s).set k (UInt8.ofNat x) = (bl s).take k ++ UInt8.ofNat x :: (bl s).drop (k + 1) := by
    rw [List.set_eq_take_append_cons_drop, if_pos hk]
  rw [e2]
  conv => rhs; rw [e1]
  rw [List.append_assoc, List.append_assoc, List.cons_append, List.cons_append]
  refine sumL_other _ _ _ _ fun he => hne ?_
  have h2 : (s[k]'h).toNat = (UInt8.ofNat x).toNat := by rw [he]
  rw [h2, UInt8.toNat_ofNat']; omega

/-- The row of a text's bytes, one of them another one. -/
theorem setB_bytes (w : World) (s : ByteArray) (k x : Nat) (h : k < s.size) (hx : x < 256) :
    Lib.Bytes ((Lib.bytesWorld w 5 s).setCell ⟨w.heap.size, k, none⟩ (.int .u8 x)) w.heap.size 0 (setB s k x) := by
  intro i hi
  rw [setB_size] at hi
  have hb := Lib.bytesWorld_at_new w 5 s
  have hsz : s.size ≤ (Lib.bytesCells w 5 s).size := by simp [Lib.bytesCells]
  have hx2 : ((setB s k x)[i]'(by rw [setB_size]; exact hi)).toNat = if i = k then x else s[i].toNat := by
    have : (setB s k x)[i]'(by rw [setB_size]; exact hi) = ((bl s).set k (UInt8.ofNat x))[i]'(by rw [List.length_set, bl_length]; exact hi) := rfl
    rw [this, List.getElem_set]
    split
    · rename_i h2; rw [if_pos h2.symm, UInt8.toNat_ofNat']; omega
    · rename_i h2; rw [if_neg (fun h3 => h2 h3.symm)]; rfl
  rw [hx2, Nat.zero_add]
  by_cases hik : i = k
  · subst hik
    rw [if_pos rfl]
    exact World.cell?_setCell_same' _ _ _ (by rw [Lib.bytesWorld_cell w 5 s i h]; rfl)
  · rw [if_neg hik, World.cell?_setCell_other _ _ _ _ (show (⟨w.heap.size, k, none⟩ : Addr) ≠ ⟨w.heap.size, i, none⟩ by intro h2; exact hik (Addr.mk.inj h2).2.1.symm), Lib.bytesWorld_cell w 5 s i hi]
    congr 3
    rw [List.getD_eq_getElem?_getD, List.getElem?_eq_getElem (by show i < (bl s).length; rw [bl_length]; exact hi)]
    rfl

theorem bytes_free (w : World) (s : ByteArray) (k : Nat) (h : k < s.size) : (Lib.bytesWorld w 5 s).frozen? ⟨w.heap.size, k, none⟩ = false := by
  have hsz : s.size ≤ (Lib.bytesCells w 5 s).size := by simp [Lib.bytesCells]
  unfold World.frozen?
  rw [Lib.bytesWorld_at_new]
  simp
  omega

set_option maxHeartbeats 1000000 in
set_option maxRecDepth 100000 in
theorem sumJoins_walk {w : World} {v0 : Value} (h0 : w.cell? ⟨0, 0, none⟩ = some v0) (hA : AtoiEnv w) (ht : PowTab w) (a b c : ByteArray) (i : Int) (x : Nat) (hx : x < 256) :
    Calls Tryd.prog 6 #[.string a, .string b, .string c, .int .i64 i, .int .u8 x] w fun e w' => e = .returned (.bool true) ∧ Below w.heap.size w w' := by
  go_enter Tryd.func6, Tryd.ntmps6
  go_wp2_with fail
  refine (summed_any w).mono ?_
  rintro e w1 ⟨rfl, rfl⟩
  by_cases la : a.size ≤ 300
  · by_cases lb : b.size ≤ 300
    · by_cases lc : c.size ≤ 300
      · have j1 := sumL_append (bl a) (bl b)
        have j2 := sumL_append (bl a ++ bl b) (bl c)
        rw [← bl_append, bl_length] at j1 j2
        rw [← bl_append] at j2
        have J1 := Lib.hid j1.symm
        have J2 := Lib.hid j2.symm
        have C1 := Lib.hid (sumJoin_ok (sumL (bl a)) (sumL (bl b)) b.size (sumL_lt _) (sumL_lt _) (by omega) w)
        have C2 := Lib.hid (sumJoin_ok (sumL (bl (a ++ b))) (sumL (bl c)) c.size (sumL_lt _) (sumL_lt _) (by omega) w)
        have sab : (a ++ b).size ≤ 600 := by have := congrArg List.length (bl_append a b); rw [List.length_append, bl_length, bl_length, bl_length] at this; omega
        have sabc : (a ++ b ++ c).size ≤ 900 := by have := congrArg List.length (bl_append (a ++ b) c); rw [List.length_append, bl_length, bl_length, bl_length] at this; omega
        clear j1 j2
        go_wp2_with fail
        refine (sumOf_any a w (by omega)).mono ?_
        rintro e w1 ⟨rfl, rfl⟩
        go_wp2_with fail
        refine (sumOf_any b w (by omega)).mono ?_
        rintro e w1 ⟨rfl, rfl⟩
        go_wp2_with fail
        refine C1.out.mono ?_
        rintro e w1 ⟨rfl, rfl⟩
        rw [J1.out]
        clear C1 J1
        go_wp2_with fail
        refine (sumOf_any (a ++ b) w (by omega)).mono ?_
        rintro e w1 ⟨rfl, rfl⟩
        go_wp2_with fail
        refine (sumOf_any c w (by omega)).mono ?_
        rintro e w1 ⟨rfl, rfl⟩
        go_wp2_with fail
        refine C2.out.mono ?_
        rintro e w1 ⟨rfl, rfl⟩
        rw [J2.out]
        clear C2 J2
        go_wp2_with fail
        refine (sumOf_any (a ++ b ++ c) w (by omega)).mono ?_
        rintro e w1 ⟨rfl, rfl⟩
        have hm := sumL_lt (bl (a ++ b ++ c))
        have RR := Lib.hid (show ∀ t : ByteArray, bl t = 115 :: Lib.decDigits (sumL (bl (a ++ b ++ c))) → readS (bl t) = some (sumL (bl (a ++ b ++ c))) from fun t htt => by
          unfold readS
          rw [htt, if_pos (show (115 :: Lib.decDigits (sumL (bl (a ++ b ++ c)))).head? = some 115 from rfl)]
          show (numOf (Lib.decDigits _) 10).bind _ = _
          rw [numOf_dec _ 10 (decDigits_len_le 9 _ (Nat.lt_trans hm (by decide)))]
          show (if _ then _ else _) = _
          rw [if_pos hm])
        generalize sumL (bl (a ++ b ++ c)) = m at *
        go_wp2_with fail
        refine (sumText_ok m hm w ht).mono ?_
        rintro e w1 ⟨t, rfl, HT, hts, hb⟩
        have HR := Lib.hid (RR.out t HT.out)
        have h01 := (hb.cell (show (⟨0, 0, none⟩ : Addr).block < w.heap.size from Lib.lt_of_cell h0)).trans h0
        have hA1 := hA.ext hb
        have ht1 := ht.ext hb
        clear h0 hA ht RR HT
        go_wp2_with fail
        refine (sumRead_any t v0 w1 (by omega) hA1 ht1 h01).mono ?_
        rintro e w2 (⟨n, rfl, HN, hn, hb2⟩ | ⟨rfl, HN, hb2⟩)
        · have hnm : n = m := by have := HN.out; rw [HR.out] at this; exact (Option.some.inj this).symm
          subst hnm
          have hbb := hb.trans (hb2.mono hb.size)
          clear HN HR hb hb2 hA1 ht1 h01
          by_cases i0 : 0 ≤ i
          · by_cases i1 : i < a.size
            · obtain ⟨k, rfl⟩ : ∃ k : Nat, i = k := ⟨i.toNat, by omega⟩
              have hk : k < a.size := by omega
              have ix : ∀ W : World, (Instr.index 9 (.string a) (.int .i64 (k : Int))).run Tryd.prog W = .ok (.int .u8 a[k].toNat) W := index_nat a k k hk rfl
              by_cases hax : a[k].toNat = x
              · have q : ((a[k].toNat : Int) == (x : Int)) = true := by rw [beq_iff_eq]; omega
                go_wp2_with fail
                go_ret
                exact ⟨rfl, hbb⟩
              · have q : ((a[k].toNat : Int) == (x : Int)) = false := by rw [beq_eq_false_iff_ne]; omega
                have cv := Lib.run_convert_string_bytes (P := Tryd.prog) w2 9 53 5 a Tryd.underlying9 Tryd.underlying53 Tryd.underlying5
                have bc := Lib.bytesWorld_cell w2 5 a k hk
                have bf := bytes_free w2 a k hk
                have BB := Lib.hid (setB_bytes w2 a k x hk hx)
                have bW := Lib.bytesWorld_below w2 5 a
                generalize Lib.bytesWorld w2 5 a = W at *
                have cw := Lib.run_convert_whole (P := Tryd.prog) _ 53 5 9 Tryd.underlying53 Tryd.underlying5 Tryd.underlying9 _ _ _ BB.out (grownCap w2 a.size 0 5)
                rw [setB_size] at cw
                have sd : (setB a k x).size ≤ 300 := by rw [setB_size]; exact la
                have sdb : (setB a k x ++ b).size ≤ 600 := by have := congrArg List.length (bl_append (setB a k x) b); rw [List.length_append, bl_length, bl_length, bl_length] at this; omega
                have n1 : sumL (bl (setB a k x)) ≠ sumL (bl a) := by
                  have := sum_set a k x hk hx hax []
                  rwa [List.append_nil, List.append_nil] at this
                have n2 : sumL (bl (setB a k x ++ b)) ≠ sumL (bl (a ++ b)) := by
                  have := sum_set a k x hk hx hax (bl b)
                  rw [bl_append, bl_append]; exact this
                have p1 : (((sumL (bl (setB a k x)) : Nat) : Int) != ((sumL (bl a) : Nat) : Int)) = true := by rw [bne_iff_ne]; omega
                have p2 : (((sumL (bl (setB a k x ++ b)) : Nat) : Int) != ((sumL (bl (a ++ b)) : Nat) : Int)) = true := by rw [bne_iff_ne]; omega
                have bS : Below w2.heap.size w2 (W.setCell ⟨w2.heap.size, k, none⟩ (.int .u8 x)) := bW.setCell (Nat.le_refl _) _
                clear n1 n2 BB bW
                go_wp2_with fail
                refine (sumOf_any _ _ (by omega)).mono ?_
                rintro e w1 ⟨rfl, rfl⟩
                go_wp2_with fail
                refine (sumOf_any a _ (by omega)).mono ?_
                rintro e w1 ⟨rfl, rfl⟩
                go_wp2_with fail
                refine (sumOf_any _ _ (by omega)).mono ?_
                rintro e w1 ⟨rfl, rfl⟩
                go_wp2_with fail
                refine (sumOf_any (a ++ b) _ (by omega)).mono ?_
                rintro e w1 ⟨rfl, rfl⟩
                go_wp2_with fail
                go_ret
                exact ⟨rfl, hbb.trans (bS.mono hbb.size)⟩
            · go_wp2_with fail
              go_ret
              exact ⟨rfl, hbb⟩
          · go_wp2_with fail
            go_ret
            exact ⟨rfl, hbb⟩
        · have := HN.out; rw [HR.out] at this; cases this
      · go_wp2_with fail
        go_ret
        exact ⟨rfl, Below.refl _ _⟩
    · go_wp2_with fail
      go_ret
      exact ⟨rfl, Below.refl _ _⟩
  · go_wp2_with fail
    go_ret
    exact ⟨rfl, Below.refl _ _⟩
end Go.Proofs.YtkglpgbpfngafaaDoor
