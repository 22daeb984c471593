/- chandlerylaw1.pressed, PressTells: the walks. -/
import Derived.Test.YtkglpgbpfngafaaDoorPress
import Derived.Test.YtkglpgbpfngafaaDoorPressOf
import Derived.Test.YtkglpgbpfngafaaDoorOpenOf
import Derived.Test.YtkglpgbpfngafaaDoorCoded
namespace Go.Proofs.YtkglpgbpfngafaaDoor
open Go Go.RowKit

theorem runs_closed : runsL [51, 58, 97, 49, 58, 98] = ([(3, 97), (1, 98)], none) := by decide
theorem openT_closed : openT (runsL [51, 58, 97, 49, 58, 98]) 9 = [97, 97, 97, 98] := by rw [runs_closed]; rfl
theorem openE_closed : openE (runsL [51, 58, 97, 49, 58, 98]) 9 = Er.nil := by rw [runs_closed]; rfl
theorem pressL_closed : pressL [97, 97, 97, 98] = [51, 58, 97, 49, 58, 98] := by
  have h : grp [97, 97, 97, 98] = [(3, 97), (1, 98)] := by decide
  simp [pressL, h, runText, decDigits_small]

theorem pressed_any {E : Nat → Addr} {w : World} (hE : Env E w) (ht : PowTab w) :
    Calls Tryd.prog 15 #[] w fun e w' => e = .returned (.bool true) ∧ Below w.heap.size w w' := by
  go_enter Tryd.func15, Tryd.ntmps15
  go_wp2_with fail
  refine (open_any ⟨#[51, 58, 97, 49, 58, 98]⟩ 9 w (by decide) (by decide) hE).mono ?_
  rintro e w1 ⟨t, v, rfl, HT, hv, hb1⟩
  have ht1 : t = ⟨#[97, 97, 97, 98]⟩ := bl_inj (HT.out.trans openT_closed)
  rw [show bl ⟨#[51, 58, 97, 49, 58, 98]⟩ = [51, 58, 97, 49, 58, 98] from rfl, openE_closed] at hv
  have hvn := hv.nil_inv
  subst ht1
  subst hvn
  have hT1 := ht.ext hb1
  clear hv HT
  go_wp2_with fail
  refine (press_any ⟨#[97, 97, 97, 98]⟩ w1 (by decide) hT1).mono ?_
  rintro e w2 ⟨t, rfl, HT, hb2⟩
  have ht1 : t = ⟨#[51, 58, 97, 49, 58, 98]⟩ := bl_inj (HT.out.trans pressL_closed)
  subst ht1
  clear HT
  go_wp2_with fail
  go_ret
  exact ⟨rfl, hb1.trans (hb2.mono hb1.size)⟩

theorem fault_runs (r : List (Nat × UInt8) × Option Nat) : faultB (errR r.2) (rcode r) (rat r) = true := by
  obtain ⟨l, o⟩ := r
  cases o <;> simp [faultB, errR, rcode, rat]
theorem fault_same (er : Er) : faultB er er.code (er.at?.getD (-1)) = true := by simp [faultB]
theorem size_runs (r : List (Nat × UInt8) × Option Nat) : sizeR r = sumR (rlist r) := by
  obtain ⟨l, o⟩ := r
  cases o <;> simp [sizeR, rlist, sumR]

/-- A reference's fault is stored anew: no error of the program's lies there. -/
theorem IsErr.other {E : Nat → Addr} {w W : World} {v : Value} {er : Er} {B : Nat} {k : IntKind} {x : Int} (h : IsErr E w v er) (hB : w.cell? ⟨B, 1, none⟩ = some (.int k x)) (hk : ∀ q, q ≠ B → W.heap[q]? = w.heap[q]?) : IsErr E W v er := by
  rcases h with h | h | ⟨j, a, b, hj, h1, h2, h3, h4⟩
  · exact .inl h
  · exact .inr (.inl h)
  · have hb : b ≠ B := by
      rintro rfl
      rw [hB] at h4
      simp at h4
    exact .inr (.inr ⟨j, a, b, hj, h1, h2, by rw [World.cell?_of_block (w := w) (a := ⟨b, 0, none⟩) (hk b hb)]; exact h3, by rw [World.cell?_of_block (w := w) (a := ⟨b, 1, none⟩) (hk b hb)]; exact h4⟩)

set_option maxHeartbeats 1000000 in
set_option maxRecDepth 100000 in
theorem pressTells_walk {E : Nat → Addr} {w : World} (hE : Env E w) (ht : PowTab w) (s t : ByteArray) (most : Int) :
    Calls Tryd.prog 5 #[.string s, .string t, .int .i64 most] w fun e w' => e = .returned (.bool true) ∧ Below w.heap.size w w' := by
  go_enter Tryd.func5, Tryd.ntmps5
  go_wp2_with fail
  refine (pressed_any hE ht).mono ?_
  rintro e w1 ⟨rfl, hb1⟩
  have hE1 := hE.ext hb1
  have hT1 := ht.ext hb1
  have HE0 := Lib.hid hE
  by_cases hs : s.size ≤ 500
  · by_cases htt : t.size ≤ 300
    · by_cases hm : most ≤ 100000
      · go_wp2_with fail
        refine (press_any s w1 (by omega) hT1).mono ?_
        rintro e w2 ⟨p1, rfl, HP1, hb2⟩
        have hE2 := hE1.ext hb2
        clear hE1 hT1
        go_wp2_with fail
        refine (pressOf_any s w2 (by omega)).mono ?_
        rintro e w3 ⟨p2, rfl, HP2, hb3⟩
        have hpp : p2 = p1 := bl_inj (HP2.out.trans HP1.out.symm)
        subst hpp
        have hE3 := hE2.ext hb3
        have hbb3 : Below w.heap.size w w3 := (hb1.trans (hb2.mono hb1.size)).trans (hb3.mono (Nat.le_trans hb1.size hb2.size))
        clear HP1 HP2 hE2 hb1 hb2 hb3 hE ht
        go_wp2_with fail
        refine (runsOf_any t w3 (by omega)).mono ?_
        rintro e w4 ⟨v, rfl, hv, hb4⟩
        have hE4 := (hE3.ext hb4).ext ((Below.refl _ _).alloc (Nat.le_refl _) (.cells #[.int .i64 (rcode (runsL (bl t))), .int .i64 (rat (runsL (bl t)))] 43))
        have hv4 := hv.ext ((Below.refl _ _).alloc (Nat.le_refl _) (.cells #[.int .i64 (rcode (runsL (bl t))), .int .i64 (rat (runsL (bl t)))] 43))
        have hbb4 : Below w.heap.size w (w4.alloc (.cells #[.int .i64 (rcode (runsL (bl t))), .int .i64 (rat (runsL (bl t)))] 43)) := (hbb3.trans (hb4.mono hbb3.size)).alloc (Nat.le_trans hbb3.size hb4.size) _
        have hFB := heap_alloc_new w4 (.cells #[.int .i64 (rcode (runsL (bl t))), .int .i64 (rat (runsL (bl t)))] 43)
        have hw34 : w.heap.size ≤ w4.heap.size := Nat.le_trans hbb3.size hb4.size
        clear hb4 hE3 hbb3 hv
        go_wp2_with fail
        generalize w4.alloc (.cells #[.int .i64 (rcode (runsL (bl t))), .int .i64 (rat (runsL (bl t)))] 43) = W4 at hE4 hv4 hbb4 hFB ⊢
        generalize w4.heap.size = B at hFB hw34 ⊢
        refine (size_any t W4 (by omega) hE4).mono ?_
        rintro e w5 ⟨er, rfl, her, hb5⟩
        rw [size_runs]
        have hE5 := hE4.ext hb5
        have hv5 := hv4.ext hb5
        have hbb5 := hbb4.trans (hb5.mono hbb4.size)
        have hFB5 : w5.heap[B]? = some (.cells #[.int .i64 (rcode (runsL (bl t))), .int .i64 (rat (runsL (bl t)))] 43 (0, 0)) := by rw [hb5.block _ (Array.getElem?_eq_some_iff.1 hFB).1]; exact hFB
        obtain ⟨c0, c1, _, _⟩ := loaded2 hFB5
        have hfb := fault_runs (runsL (bl t))
        have hBl : B < w5.heap.size := (Array.getElem?_eq_some_iff.1 hFB5).1
        clear hb5 hE4 hv4 hbb4 hFB
        go_wp2_with fail
        refine (faulted_any hE5 her _ _).mono ?_
        rintro e w6 ⟨rfl, hb6⟩
        rw [hfb]
        have hE6 := hE5.ext hb6
        have hv6 := hv5.ext hb6
        have hbb6 := hbb5.trans (hb6.mono hbb5.size)
        have hFB6 : w6.heap[B]? = some (.cells #[.int .i64 (rcode (runsL (bl t))), .int .i64 (rat (runsL (bl t)))] 43 (0, 0)) := by rw [hb6.block _ hBl]; exact hFB5
        have hsum : sumR (rlist (runsL (bl t))) ≤ 4611686018427387904 := by
          have h1 := runs_sum (bl t)
          rw [bl_length] at h1
          have h2 : sumR (rlist (runsL (bl t))) ≤ sumR (runsL (bl t)).1 := by
            unfold rlist
            split
            · exact Nat.le_refl _
            · simp [sumR]
          omega
        clear hb6 hE5 hv5 hbb5 hFB5 c0 c1 her hfb
        go_wp2_with fail
        refine (sizeOf_any hv6 hsum).mono ?_
        rintro e w7 ⟨rfl, hb7⟩
        have hE7 := hE6.ext hb7
        have hbb7 := hbb6.trans (hb7.mono hbb6.size)
        have hB6 : B < w6.heap.size := (Array.getElem?_eq_some_iff.1 hFB6).1
        have hFB7 : w7.heap[B]? = some (.cells #[.int .i64 (rcode (runsL (bl t))), .int .i64 (rat (runsL (bl t)))] 43 (0, 0)) := by rw [hb7.block _ hB6]; exact hFB6
        clear hb7 hE6 hv6 hbb6 hFB6 hsum
        go_wp2_with fail
        refine (open_any t most w7 (by omega) (by omega) hE7).mono ?_
        rintro e w8 ⟨x, ev, rfl, HX, hev, hb8⟩
        have hE8 := hE7.ext hb8
        have hbb8 := hbb7.trans (hb8.mono hbb7.size)
        have hB7 : B < w7.heap.size := (Array.getElem?_eq_some_iff.1 hFB7).1
        have hFB8 : w8.heap[B]? = some (.cells #[.int .i64 (rcode (runsL (bl t))), .int .i64 (rat (runsL (bl t)))] 43 (0, 0)) := by rw [hb8.block _ hB7]; exact hFB7
        clear hb8 hE7 hbb7 hFB7
        go_wp2_with fail
        refine (openOf_any t most w8 (by omega) (by omega)).mono ?_
        rintro e w9 ⟨y, rfl, HY, hb9⟩
        have hxy : y = x := bl_inj (HY.out.trans HX.out.symm)
        subst hxy
        have hev9 := hev.ext hb9
        have hE9 := hE8.ext hb9
        have hbb9 := hbb8.trans (hb9.mono hbb8.size)
        have hB8 : B < w8.heap.size := (Array.getElem?_eq_some_iff.1 hFB8).1
        have hFB9 : w9.heap[B]? = some (.cells #[.int .i64 (rcode (runsL (bl t))), .int .i64 (rat (runsL (bl t)))] 43 (0, 0)) := by rw [hb9.block _ hB8]; exact hFB8
        obtain ⟨a0, a1, f0, f1⟩ := loaded2 hFB9
        have h2 := two_setCell hFB9 (.int .i64 (openE (runsL (bl t)) most).code) (.int .i64 ((openE (runsL (bl t)) most).at?.getD (-1)))
        have hkk : ∀ q, q ≠ B → ((w9.setCell ⟨B, 0, none⟩ (.int .i64 (openE (runsL (bl t)) most).code)).setCell ⟨B, 1, none⟩ (.int .i64 ((openE (runsL (bl t)) most).at?.getD (-1)))).heap[q]? = w9.heap[q]? := fun q hq => by
          rw [Below.heap_setCell _ _ _ _ hq, Below.heap_setCell _ _ _ _ hq]
        have hevF := hev9.other a1 hkk
        have hBF : Below w.heap.size w ((w9.setCell ⟨B, 0, none⟩ (.int .i64 (openE (runsL (bl t)) most).code)).setCell ⟨B, 1, none⟩ (.int .i64 ((openE (runsL (bl t)) most).at?.getD (-1)))) := (hbb9.setCell (p := ⟨B, 0, none⟩) hw34 _).setCell (p := ⟨B, 1, none⟩) hw34 _
        have hEF := HE0.out.ext hBF
        have hfs := fault_same (openE (runsL (bl t)) most)
        clear hb9 hE8 hbb8 hFB8 hev HX HY hkk hev9 hE9 hbb9 h2
        go_wp2_with fail
        refine (faulted_any hEF hevF _ _).mono ?_
        rintro e w10 ⟨rfl, hb10⟩
        rw [hfs]
        have hfin := hBF.trans (hb10.mono hBF.size)
        clear hb10 hEF hevF hBF hfs
        go_wp2_with fail
        go_ret
        exact ⟨rfl, hfin⟩
      · have hm' : 100000 < most := by omega
        clear hE1 hT1 hE ht hm
        go_wp2_with fail
        go_ret
        exact ⟨rfl, hb1⟩
    · have ht' : 300 < (t.size : Int) := by omega
      clear hE1 hT1 hE ht htt
      go_wp2_with fail
      go_ret
      exact ⟨rfl, hb1⟩
  · have hs' : 500 < (s.size : Int) := by omega
    clear hE1 hT1 hE ht hs
    go_wp2_with fail
    go_ret
    exact ⟨rfl, hb1⟩
end Go.Proofs.YtkglpgbpfngafaaDoor
