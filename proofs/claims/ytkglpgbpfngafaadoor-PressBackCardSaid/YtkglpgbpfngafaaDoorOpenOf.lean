/- chandleryref1.OpenOf by its contract. -/
import Derived.Test.YtkglpgbpfngafaaDoorSizeOf
import Derived.Test.YtkglpgbpfngafaaDoorOpen
import Derived.Deep.RegionWith
namespace Go.Proofs.YtkglpgbpfngafaaDoor
open Go Go.RowKit

abbrev encByte (c : UInt8) : List Value := [.int .u8 c.toNat]
theorem openR_take (l : List (Nat × UInt8)) (k : Nat) (h : k < l.length) : openR (l.take (k + 1)) = openR (l.take k) ++ List.replicate l[k].1 l[k].2 := by
  rw [List.take_succ_eq_append_getElem h, openR_append]; simp [openR]

def OpenEnd (w : World) (r : List (Nat × UInt8) × Option Nat) (most : Int) (e : Ending) (w' : World) : Prop :=
  ∃ t, e = .returned (.tuple #[.string t, faultV (openE r most).code ((openE r most).at?.getD (-1))]) ∧ Hid (bl t = openT r most) ∧ Below w.heap.size w w'

theorem loaded2 {w : World} {b : Nat} {u v : Value} {t : TypeId} (h : w.heap[b]? = some (.cells #[u, v] t (0, 0))) :
    w.cell? ⟨b, 0, none⟩ = some u ∧ w.cell? ⟨b, 1, none⟩ = some v ∧ w.frozen? ⟨b, 0, none⟩ = false ∧ w.frozen? ⟨b, 1, none⟩ = false := by
  simp [World.cell?, World.frozen?, h]

/-- string(b), b a row of bytes of the call's own. -/
theorem conv_owned {B : Nat} {w : World} {v : Value} {L : List UInt8} (h : w.ownsRow B 5 1 v L.length (Lib.byteCells L)) :
    ∃ t : ByteArray, bl t = L ∧ ∀ w' : World, (∀ q, v.ownBlock = some q → w'.heap[q]? = w.heap[q]?) → (convert 53 9 v).run Tryd.prog w' = .ok (.string t) w' := by
  rcases h.2 with ⟨rfl, h0⟩ | ⟨g, cap, cur, rfl, hb, hg, hn, hc, hsz, ht⟩
  · have hL : L = [] := List.eq_nil_of_length_eq_zero h0
    subst hL
    exact ⟨ByteArray.empty, rfl, fun w' _ => run_convert_bytes_nil w' 53 5 Tryd.underlying53 Tryd.underlying5 0 0 9 Tryd.underlying9⟩
  · refine ⟨strOfNums (L.map fun c => (c.toNat : Int)), ?_, fun w' hw => ?_⟩
    · refine (strOfNums_data _).trans ?_
      rw [List.map_map]
      exact (List.map_congr_left fun c _ => by simp).trans (List.map_id L)
    · refine run_convert_bytes_arg w' 53 5 Tryd.underlying53 Tryd.underlying5 g 0 L.length cap (L.map fun c => (c.toNat : Int)) (by simp) (fun i hi => ?_) 9 Tryd.underlying9
      have h1 := h.cells (g := g) rfl i (.int .u8 (L[i].toNat)) (by simp [Lib.byteCells, hi])
      rw [Addr.add_lit] at h1
      rw [World.cell?_of_block (w := w) (a := ⟨g, 0 + i, none⟩) (hw g rfl), h1]
      simp [hi]

set_option maxHeartbeats 2000000 in
set_option maxRecDepth 100000 in
theorem openOf_any (s : ByteArray) (most : Int) (w : World) (hs : s.size ≤ 1073741824) (hm : most ≤ 1099511627776) :
    Calls Tryd.prog 23 #[.string s, .int .i64 most] w (OpenEnd w (runsL (bl s)) most) := by
  obtain ⟨b0, hb0, hbz0, hbz1, hbz2⟩ := info_parts Tryd.infoByte
  go_enter Tryd.func23, Tryd.ntmps23
  go_wp2_with fail
  refine (runsOf_any s _ hs).mono ?_
  rintro e w1 ⟨v, rfl, hv, hb1⟩
  have hA : w1.heap[w.heap.size]? = some (.cells #[.int .i64 0, .int .i64 0] 43 (0, 0)) := by rw [hb1.block _ (by simp)]; exact heap_alloc_new w _
  have hbw : Below w.heap.size w w1 := ((Below.refl _ _).alloc (Nat.le_refl _) _).trans (hb1.mono (by simp))
  have hz : w.heap.size < w1.heap.size := (Array.getElem?_eq_some_iff.1 hA).1
  clear hb1
  obtain ⟨a0, a1, f0, f1⟩ := loaded2 hA
  cases hr : (runsL (bl s)).2 with
  | some p =>
    obtain ⟨e1, e2, e3⟩ := r_some (show runsL (bl s) = ((runsL (bl s)).1, some p) by rw [← hr])
    rw [e2, e3]
    have HT := Lib.hid (open_some hr most)
    clear hr e1 e2 e3 hv
    go_wp2_with fail
    go_region
    go_wp2_with fail
    have h2 := two_setCell hA (.int .i64 1) (.int .i64 p)
    have hB2 : Below w.heap.size w ((w1.setCell ⟨w.heap.size, 0, none⟩ (.int .i64 1)).setCell ⟨w.heap.size, 1, none⟩ (.int .i64 p)) := (hbw.setCell (p := ⟨w.heap.size, 0, none⟩) (Nat.le_refl _) _).setCell (p := ⟨w.heap.size, 1, none⟩) (Nat.le_refl _) _
    generalize (w1.setCell ⟨w.heap.size, 0, none⟩ (.int .i64 1)).setCell ⟨w.heap.size, 1, none⟩ (.int .i64 p) = W1 at h2 hB2 ⊢
    have hz2 : w.heap.size < W1.heap.size := (Array.getElem?_eq_some_iff.1 h2).1
    obtain ⟨d0, d1, _, _⟩ := loaded2 h2
    refine bodyPost_ret (v := .tuple #[.string ⟨#[]⟩, faultV 1 p]) (by simp [results, Tryd.results23, go_sem, d0, d1, hz2]) rfl ?_
    refine ⟨⟨#[]⟩, ?_, by rw [HT.out.1]; rfl, (hB2.alloc hB2.size _).drew⟩
    rw [HT.out.2]; rfl
  | none =>
    obtain ⟨e1, e2, e3⟩ := r_none (show runsL (bl s) = ((runsL (bl s)).1, none) by rw [← hr])
    rw [e2, e3]
    rw [e1] at hv
    have hsum := runs_sum (bl s)
    rw [bl_length] at hsum
    generalize hl : (runsL (bl s)).1 = l at hv hsum
    clear e1 e2 e3
    by_cases hmm : most < (sumR l : Int)
    · have HT := Lib.hid (open_much hr (show most < (sumR (runsL (bl s)).1 : Int) by rw [hl]; exact hmm))
      clear hr hl
      go_wp2_with fail
      refine (sizeOf_any (hv.ext ((Below.refl _ _).alloc (Nat.le_refl _) _)) (by omega)).mono ?_
      rintro e w2 ⟨rfl, hb2⟩
      have hA2 : w2.heap[w.heap.size]? = some (.cells #[.int .i64 0, .int .i64 0] 43 (0, 0)) := by rw [hb2.block _ (by simp; omega), Below.heap_alloc _ _ _ hz]; exact hA
      have hbw2 : Below w.heap.size w w2 := (hbw.alloc hbw.size _).trans (hb2.mono (by have := hbw.size; simp; omega))
      clear hb2 hv hA a0 a1 f0 f1 hsum
      go_wp2_with fail
      refine (bare_any 8 _).mono ?_
      rintro e w3 ⟨rfl, hb3⟩
      have hz3 : w.heap.size < w2.heap.size := (Array.getElem?_eq_some_iff.1 hA2).1
      have hA3 : w3.heap[w.heap.size]? = some (.cells #[.int .i64 0, .int .i64 0] 43 (0, 0)) := by rw [hb3.block _ hz3]; exact hA2
      have hbw3 : Below w.heap.size w w3 := hbw2.trans (hb3.mono hbw2.size)
      obtain ⟨a0, a1, f0, f1⟩ := loaded2 hA3
      clear hb3
      go_wp2_with fail
      have h2 := two_setCell hA3 (.int .i64 8) (.int .i64 (-1))
      have hB2 : Below w.heap.size w ((w3.setCell ⟨w.heap.size, 0, none⟩ (.int .i64 8)).setCell ⟨w.heap.size, 1, none⟩ (.int .i64 (-1))) := (hbw3.setCell (p := ⟨w.heap.size, 0, none⟩) (Nat.le_refl _) _).setCell (p := ⟨w.heap.size, 1, none⟩) (Nat.le_refl _) _
      generalize (w3.setCell ⟨w.heap.size, 0, none⟩ (.int .i64 8)).setCell ⟨w.heap.size, 1, none⟩ (.int .i64 (-1)) = W1 at h2 hB2 ⊢
      obtain ⟨d0, d1, _, _⟩ := loaded2 h2
      refine bodyPost_ret (v := .tuple #[.string ⟨#[]⟩, faultV 8 (-1)]) (by simp [results, Tryd.results23, go_sem, d0, d1]) rfl ?_
      refine ⟨⟨#[]⟩, ?_, by rw [HT.out.1]; rfl, hB2⟩
      rw [HT.out.2]; rfl
    · have HT := Lib.hid (open_fine hr (show ¬ most < (sumR (runsL (bl s)).1 : Int) by rw [hl]; exact hmm))
      rw [hl] at HT
      clear hr hl
      go_wp2_with fail
      refine (sizeOf_any (hv.ext ((Below.refl _ _).alloc (Nat.le_refl _) _)) (by omega)).mono ?_
      rintro e w2 ⟨rfl, hb2⟩
      have hF : w2.heap[w1.heap.size]? = some (.cells #[.int .i64 0, .int .i64 (-1)] 43 (0, 0)) := by rw [hb2.block _ (by simp)]; exact heap_alloc_new w1 _
      have hA2 : w2.heap[w.heap.size]? = some (.cells #[.int .i64 0, .int .i64 0] 43 (0, 0)) := by rw [hb2.block _ (by simp; omega), Below.heap_alloc _ _ _ hz]; exact hA
      have hbw2 : Below w.heap.size w w2 := (hbw.alloc hbw.size _).trans (hb2.mono (by have := hbw.size; simp; omega))
      have hv2 : Row encRun 2 w2 v l := (hv.ext ((Below.refl _ _).alloc (Nat.le_refl _) (.cells #[.int .i64 0, .int .i64 (-1)] 43))).ext hb2
      obtain ⟨ao, cap, rfl, h1, h2, H3⟩ := hv2.parts2
      have hll : l.length ≤ 9223372036854775807 := by rw [maxLen_eq] at h2; omega
      have HM := Lib.hid H3
      clear hb2 hv hA a0 a1 f0 f1 hsum hv2 h1 h2 H3
      go_wp2_with fail
      go_loopw [8, 9] (fun v i wr => ∃ k : Nat, k ≤ l.length ∧ i = .int .i64 k ∧ wr.ownsRow w2.heap.size 5 1 v (sumR (l.take k)) (Lib.byteCells (openR (l.take k))) ∧ Below w2.heap.size w2 wr) (fun _ i _ => l.length - (intOf i).toNat)
      case atStart => exact ⟨0, Nat.zero_le _, rfl, World.ownsRow_nil _ _ _ _, Below.refl _ _⟩
      case round =>
        obtain ⟨k, hk, rfl, hown, hb⟩ := hrel
        by_cases hlt : k < l.length
        · obtain ⟨b, off, rfl, hbl, hcell⟩ := HM.out k hlt
          have hc0 := (hcell k hlt).1
          have hc1 := (hcell k hlt).2
          have hs1 := sumR_take l k hlt
          have hs2 := sumR_take_le l (k + 1)
          have ho1 := openR_take l k hlt
          obtain ⟨wo, rfl⟩ : ∃ wo : World, wo = wr := ⟨_, rfl⟩
          generalize l[k].1 = n at hc0 hs1 ho1
          generalize l[k].2 = c at hc1 ho1
          have hsn : sumR (l.take k) + n ≤ 1099511627776 := by omega
          have HO := Lib.hid ho1
          have HS := Lib.hid hs1
          have HOW := Lib.hid hown
          clear ho1 hs1 hs2 hcell hown
          go_wp2_with fail
          go_loopw [8, 10] (fun v j wi => ∃ m : Nat, m ≤ n ∧ j = .int .i64 m ∧ wi.ownsRow w2.heap.size 5 1 v (sumR (l.take k) + m) (Lib.byteCells (openR (l.take k) ++ List.replicate m c)) ∧ Below w2.heap.size w2 wi) (fun _ j _ => n - (intOf j).toNat)
          case atStart => exact ⟨0, Nat.zero_le _, rfl, by simpa using HOW.out, hb⟩
          case round =>
            obtain ⟨m, hmn, rfl, howi, hbi⟩ := hrel
            have cc0 : wr.cell? ⟨b, off + k * 2, none⟩ = some (.int .i64 n) := by rw [hbi.cell (p := ⟨b, off + k * 2, none⟩) hbl]; exact hc0
            have cc1 : wr.cell? ⟨b, off + k * 2 + 1, none⟩ = some (.int .u8 c.toNat) := by rw [hbi.cell (p := ⟨b, off + k * 2 + 1, none⟩) hbl]; exact hc1
            clear hc0 hc1
            by_cases hmlt : m < n
            · have HWI := Lib.hid howi
              clear howi
              go_wp2_with (at_builtin; refine wpList_append_own _ rfl _ _ 53 rfl w2.heap.size 5 b0 (.int .u8 0) 1 1 Tryd.underlying53 hb0 hbz0 hbz1 hbz2 rfl (by decide) _ _ _ rfl (HWI.out.alloc _) ⟨wr.heap.size, 0, none⟩ 1 1 [.int .u8 c.toNat] rfl rfl ?c1 ?c2 ?c3 ?c4 ?c5 ?_)
              case c1 =>
                intro j u hj
                match j, hj with
                | 0, hj => simp at hj; subst hj; simp [Addr.add]
              case c2 => intro u hu; simp at hu; subst hu; rfl
              case c3 => rw [maxLen_eq]; omega
              case c4 => omega
              case c5 => have := hbi.size; simp; omega
              intro v' w4 hown' hgrow _
              have hown2 : w4.ownsRow w2.heap.size 5 1 v' (sumR (l.take k) + (m + 1)) (Lib.byteCells (openR (l.take k) ++ List.replicate (m + 1) c)) := by
                rw [List.replicate_succ', ← List.append_assoc, byteCells_append, ← Nat.add_assoc]; exact hown'
              have hbb : Below w2.heap.size w2 w4 := (hbi.alloc hbi.size _).grown hgrow (by have := hbi.size; simp; omega) (fun q hq => (HWI.out.lt q hq).1)
              clear hown' hgrow HWI hbi
              go_wp2_with fail
              go_roundw
              case rel => exact ⟨m + 1, by omega, by go_num, hown2, hbb⟩
              case measure => simp [intOf]; omega
            · obtain rfl : m = n := by omega
              have hown2 : wr.ownsRow w2.heap.size 5 1 u8 (sumR (l.take (k + 1))) (Lib.byteCells (openR (l.take (k + 1)))) := by rw [HS.out, HO.out]; exact howi
              clear howi
              go_wp2_with fail
              go_roundw
              case rel => exact ⟨k + 1, by omega, by go_num, hown2, hbi⟩
              case measure => simp [intOf]; omega
        · have htk : l.take k = l := List.take_of_length_le (by omega)
          rw [htk] at hown
          have hF2 : wr.heap[w1.heap.size]? = some (.cells #[.int .i64 0, .int .i64 (-1)] 43 (0, 0)) := by rw [hb.block _ (Array.getElem?_eq_some_iff.1 hF).1]; exact hF
          have hA3 : wr.heap[w.heap.size]? = some (.cells #[.int .i64 0, .int .i64 0] 43 (0, 0)) := by rw [hb.block _ (Array.getElem?_eq_some_iff.1 hA2).1]; exact hA2
          have hbw3 : Below w.heap.size w wr := hbw2.trans (hb.mono hbw2.size)
          obtain ⟨a0, a1, f0, f1⟩ := loaded2 hA3
          obtain ⟨g0, g1, _, _⟩ := loaded2 hF2
          rw [← openR_length l] at hown
          obtain ⟨tx, htx, hconv⟩ := conv_owned hown
          have hcv := hconv wr.drew (fun _ _ => rfl)
          have HTX := Lib.hid htx
          clear htk hconv htx
          go_wp2_with fail
          go_region
          clear hcv
          go_wp2_with fail
          have h2 := two_setCell hA3 (.int .i64 0) (.int .i64 (-1))
          have hB2 : Below w.heap.size w ((wr.setCell ⟨w.heap.size, 0, none⟩ (.int .i64 0)).setCell ⟨w.heap.size, 1, none⟩ (.int .i64 (-1))) := (hbw3.setCell (p := ⟨w.heap.size, 0, none⟩) (Nat.le_refl _) _).setCell (p := ⟨w.heap.size, 1, none⟩) (Nat.le_refl _) _
          generalize (wr.setCell ⟨w.heap.size, 0, none⟩ (.int .i64 0)).setCell ⟨w.heap.size, 1, none⟩ (.int .i64 (-1)) = W1 at h2 hB2 ⊢
          obtain ⟨d0, d1, _, _⟩ := loaded2 h2
          refine bodyPost_ret (v := .tuple #[.string tx, faultV 0 (-1)]) (by simp [results, Tryd.results23, go_sem, d0, d1]) rfl ?_
          refine ⟨tx, ?_, by rw [HT.out.1]; exact HTX, hB2.drew⟩
          rw [HT.out.2]; rfl
end Go.Proofs.YtkglpgbpfngafaaDoor
