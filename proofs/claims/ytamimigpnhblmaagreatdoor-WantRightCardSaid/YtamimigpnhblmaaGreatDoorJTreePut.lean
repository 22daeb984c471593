/- tree.Put: the contract. -/
import Derived.Test.YtamimigpnhblmaaGreatDoorJTreeInserts
import Derived.Test.YtamimigpnhblmaaGreatDoorJTreeSearch
import Derived.Test.YtamimigpnhblmaaGreatDoorJTreeSort
import Derived.Test.YtamimigpnhblmaaGreatDoorJTreeFew
import Derived.Deep.CutRange
namespace Go.Proofs.YtamimigpnhblmaaGreatDoor
open Go Go.RowKit

theorem splice_take {α : Type} (L cs : List α) (o n : Nat) (h : o + cs.length ≤ n) (hn : n ≤ L.length) : (splice L o cs).take n = splice (L.take n) o cs := by
  unfold splice
  rw [List.take_append, List.take_append, List.take_take, List.take_take, List.length_take, List.drop_take, Nat.min_eq_right (show o ≤ n by omega), Nat.min_eq_left (show o ≤ n by omega), Nat.min_eq_left (show o ≤ L.length by omega), List.take_of_length_le (l := cs) (by omega), show n - o - cs.length = n - (o + cs.length) by omega]
theorem set3 {α : Type} (L : List α) (o : Nat) (x y z : α) (h : o + 3 ≤ L.length) : ((L.set o x).set (o + 1) y).set (o + 2) z = splice L o [x, y, z] := by
  apply List.ext_getElem?
  intro j
  unfold splice
  simp only [List.getElem?_set, List.getElem?_append, List.length_take, List.length_cons, List.length_nil, List.getElem?_take, List.getElem?_drop, List.length_set]
  rw [Nat.min_eq_left (show o ≤ L.length by omega)]
  by_cases c1 : j < o
  · rw [if_neg (by omega), if_neg (by omega), if_neg (by omega), if_pos c1, if_pos c1]
  · by_cases c2 : j < o + 3
    · have : j = o ∨ j = o + 1 ∨ j = o + 2 := by omega
      have h0 : o < L.length := by omega
      have h1 : o + 1 < L.length := by omega
      have h2 : o + 2 < L.length := by omega
      rcases this with rfl | rfl | rfl
      · simp [h0]
      · simp [h1]; omega
      · simp [h2]; omega
    · rw [if_neg (by omega), if_neg (by omega), if_neg (by omega), if_neg c1, if_neg (by omega)]
      congr 1; omega
/-- One file written over. -/
theorem FOwn.over {w : World} {base g cap k : Nat} {cur : Array Value} {l : List FileB} (f : FileB) (hb : base ≤ g) (hg : w.heap[g]? = some (.cells cur 24 (0, 0))) (hn : l.length ≤ cap) (hc : cap ≤ maxLen) (hs : cur.size = cap * 3) (ht : cur.toList.take (l.length * 3) = l.flatMap encFile) (hk : k < l.length) :
    FOwn (((w.setCell ⟨g, k * 3, none⟩ (.string f.path)).setCell ⟨g, k * 3 + 1, none⟩ (.bool f.run)).setCell ⟨g, k * 3 + 2, none⟩ (.string f.text)) base (.slice (some ⟨g, 0, none⟩) l.length cap) (l.take k ++ f :: l.drop (k + 1)) ∧
    Below base w (((w.setCell ⟨g, k * 3, none⟩ (.string f.path)).setCell ⟨g, k * 3 + 1, none⟩ (.bool f.run)).setCell ⟨g, k * 3 + 2, none⟩ (.string f.text)) := by
  have e1 := setCell_eq_setRow w g (k * 3) cur 24 (0, 0) (.string f.path) hg
  have g1 := setRow_block (c' := cur.setIfInBounds (k * 3) (.string f.path)) hg
  have e2 := setCell_eq_setRow _ g (k * 3 + 1) _ 24 (0, 0) (.bool f.run) g1
  have g2 := setRow_block (c' := (cur.setIfInBounds (k * 3) (.string f.path)).setIfInBounds (k * 3 + 1) (.bool f.run)) g1
  have e3 := setCell_eq_setRow _ g (k * 3 + 2) _ 24 (0, 0) (.string f.text) g2
  have g3 := setRow_block (c' := ((cur.setIfInBounds (k * 3) (.string f.path)).setIfInBounds (k * 3 + 1) (.bool f.run)).setIfInBounds (k * 3 + 2) (.string f.text)) g2
  rw [e1, e2, e3]
  refine ⟨?_, below_setRow (below_setRow (below_setRow (Below.refl _ _) hb _) hb _) hb _⟩
  have hlen : (l.take k ++ f :: l.drop (k + 1)).length = l.length := by simp; omega
  have hL : cur.toList.length = cap * 3 := by rw [Array.length_toList, hs]
  have hM : (((cur.setIfInBounds (k * 3) (.string f.path)).setIfInBounds (k * 3 + 1) (.bool f.run)).setIfInBounds (k * 3 + 2) (.string f.text)).toList.take (l.length * 3) = (l.take k ++ f :: l.drop (k + 1)).flatMap encFile := by
    rw [Array.toList_setIfInBounds, Array.toList_setIfInBounds, Array.toList_setIfInBounds, set3 _ _ _ _ _ (by omega), splice_take _ _ _ _ (by show k * 3 + 3 ≤ _; omega) (by omega), ht]
    unfold splice
    rw [List.flatMap_append, List.flatMap_cons, ← enc_take, ← enc_drop, show k * 3 + [Value.string f.path, .bool f.run, .string f.text].length = (k + 1) * 3 by show _ + 3 = _; omega]
  show World.ownsRow _ _ _ _ _ _ _
  rw [hlen]
  exact ⟨by rw [enc_len, hlen], .inr ⟨g, cap, _, rfl, hb, g3, hn, hc, by simp [hs], hM⟩⟩
theorem putL_eq (l : List FileB) (f : FileB) : putL l f = l.take (putIx l f) ++ f :: (if ((l.drop (putIx l f)).head?.map (fun g => decide (g.path = f.path))) = some true then l.drop (putIx l f + 1) else l.drop (putIx l f)) := rfl
theorem putIx_le (l : List FileB) (f : FileB) : putIx l f ≤ l.length := (List.takeWhile_sublist _).length_le
theorem putL_mem {l : List FileB} {f g : FileB} (h : g ∈ putL l f) : g = f ∨ g ∈ l := by
  rw [putL_eq] at h
  rcases List.mem_append.1 h with h | h
  · exact .inr (List.mem_of_mem_take h)
  · rcases List.mem_cons.1 h with h | h
    · exact .inl h
    · split at h
      · exact .inr (List.mem_of_mem_drop h)
      · exact .inr (List.mem_of_mem_drop h)
theorem putL_len (l : List FileB) (f : FileB) : (putL l f).length ≤ l.length + 1 := by
  rw [putL_eq]
  have := putIx_le l f
  split <;> simp <;> omega
theorem treeEr_len {l : List FileB} (h : (treeEr l).code = 0) : l.length ≤ 30 := by
  unfold treeEr at h
  split at h
  · cases h
  · omega

set_option maxHeartbeats 4000000 in
set_option maxRecDepth 100000 in
theorem treePut_any {E : Nat → Addr} (v : Value) (l : List FileB) (f : FileB) (w : World) (hv : FArg w v l) (hl : l.length ≤ 9000) (hS : ∀ g ∈ l, SmallF g) (hf : SmallF f) (hE : FEnv E w) :
    Calls Tryz.prog 15 #[v, .agg (encFile f).toArray] w (TPost E (putT l f) w) := by
  have HE := Lib.hid hE
  have HS := Lib.hid hS
  have HF := Lib.hid hf
  have HV := Lib.hid hv
  obtain ⟨ao, cap, rfl, hc1, hc2, _⟩ := id hv.1
  obtain ⟨tb, htb⟩ : ∃ tb, w.heap.size = tb := ⟨_, rfl⟩
  have hB : Below w.heap.size w (w.alloc (.cells (encFile f).toArray 24)) := (Below.refl _ w).alloc (Nat.le_refl _) _
  have hT : (w.alloc (.cells (encFile f).toArray 24)).heap[tb]? = some (.cells (encFile f).toArray 24 (0, 0)) := by rw [← htb]; exact heap_alloc_new w _
  obtain ⟨w0, hw0⟩ : ∃ w0, w.alloc (.cells (encFile f).toArray 24) = w0 := ⟨_, rfl⟩
  rw [hw0] at hB hT
  have HW0 := Lib.hid hw0
  have HTB := Lib.hid htb
  have HT := Lib.hid hT
  have C := Lib.hid (treeCheck_any _ l w0 (HV.out.1.ext hB) (by omega) HS.out (HE.out.ext hB))
  clear hE hS hf hv hT htb hw0
  go_enter Tryz.func15, Tryz.ntmps15
  go_wp2_with fail
  rw [HW0.out, HTB.out]
  refine C.out.mono ?_
  clear C
  rintro e w1 ⟨⟨ev, rfl, HI⟩, hb1⟩
  have hb := hB.trans (hb1.mono hB.size)
  have HT1 : Hid (w1.heap[tb]? = some (.cells (encFile f).toArray 24 (0, 0))) := (hb1.block tb (Array.getElem?_eq_some_iff.1 HT.out).1).trans HT.out
  clear HT hB hb1
  by_cases hz : (treeEr l).code = 0
  · have hok := Lib.hid ((treeOk_iff l).1 hz)
    have h30 := treeEr_len hz
    have HP : Hid (putT l f = if (treeEr (putL l f)).code ≠ 0 then (⟨(treeEr (putL l f)).code, none⟩, []) else (⟨0, none⟩, putL l f)) := by show _ = _; unfold putT; rw [if_neg (by rw [hz]; decide)]
    obtain rfl : ev = .nilIface := IsErr.nil_inv (a := (treeEr l).at?) (by have := HI.out; rw [show treeEr l = ⟨(treeEr l).code, (treeEr l).at?⟩ from rfl, hz] at this; exact this)
    have d0 : w1.cell? ⟨tb, 0, none⟩ = some (.string f.path) := by rw [Lib.cell_of_heap HT1.out]; rfl
    have d1 : w1.cell? ⟨tb, 1, none⟩ = some (.bool f.run) := by rw [Lib.cell_of_heap HT1.out]; rfl
    have d2 : w1.cell? ⟨tb, 2, none⟩ = some (.string f.text) := by rw [Lib.cell_of_heap HT1.out]; rfl
    have C := Lib.hid (search_any f _ l w1 (by omega) (HV.out.1.ext hb) hok.out.strict)
    have hkn := putIx_le l f
    have HPM : Hid (∀ g ∈ putL l f, SmallF g) := fun g hg => by
      rcases putL_mem hg with rfl | h
      · exact HF.out
      · exact HS.out g h
    have hpl := putL_len l f
    have HPE := Lib.hid (putL_eq l f)
    obtain ⟨k, hk⟩ : ∃ k, putIx l f = k := ⟨_, rfl⟩
    obtain ⟨isn, hisn⟩ : ∃ isn, decide (((l.drop k).head?.map (fun g => decide (g.path = f.path))) = some true) = isn := ⟨_, rfl⟩
    have HK := Lib.hid hk
    have HIS := Lib.hid hisn
    rw [hk] at hkn
    clear hz HI hk hisn
    go_wp2_with fail
    refine C.out.mono ?_
    rintro e w2 ⟨rfl, hb2⟩
    rw [HK.out, HIS.out]
    have hbb := hb.trans (hb2.mono hb.size)
    have HT2 : Hid (w2.heap[tb]? = some (.cells (encFile f).toArray 24 (0, 0))) := (hb2.block tb (Array.getElem?_eq_some_iff.1 HT1.out).1).trans HT1.out
    have C2 := Lib.hid (cloneFiles_any _ l w2 (by omega) (HV.out.ext hbb))
    clear C d0 d1 d2 HT1 hb2 hb
    go_wp2_with fail
    refine C2.out.mono ?_
    rintro e w3 ⟨⟨ov, rfl, HO⟩, hb3⟩
    have hb33 := hbb.trans (hb3.mono hbb.size)
    have HO := Lib.hid (FOwn.low HO.out hbb.size)
    have HT3 : Hid (w3.heap[tb]? = some (.cells (encFile f).toArray 24 (0, 0))) := (hb3.block tb (Array.getElem?_eq_some_iff.1 HT2.out).1).trans HT2.out
    have d0 : w3.cell? ⟨tb, 0, none⟩ = some (.string f.path) := by rw [Lib.cell_of_heap HT3.out]; rfl
    have d1 : w3.cell? ⟨tb, 1, none⟩ = some (.bool f.run) := by rw [Lib.cell_of_heap HT3.out]; rfl
    have d2 : w3.cell? ⟨tb, 2, none⟩ = some (.string f.text) := by rw [Lib.cell_of_heap HT3.out]; rfl
    clear C2 HT2 hb3 hbb
    go_upto_if 24 with fail
    go_cut [9] from 11 (fun s9 wx => Hid (FOwn wx w.heap.size s9 (putL l f)) ∧ Hid (Below w.heap.size w wx))
    case first =>
      cases isn with
      | true =>
        have HX := of_decide_eq_true HIS.out
        have hkl : k < l.length := by
          rcases Nat.lt_or_ge k l.length with h | h
          · exact h
          · rw [List.drop_eq_nil_of_le h] at HX; cases HX
        have HX := Lib.hid HX
        rcases HO.out.2 with ⟨_, h0⟩ | ⟨g, cap2, cur, rfl, hgb, hg, hn, hc, hs, ht⟩
        · omega
        have r0 : (w3.cell? ⟨g, k * 3, none⟩).isSome = true := by rw [Lib.cell_of_heap hg, Array.getElem?_eq_getElem (by omega)]; rfl
        obtain ⟨u0, r0⟩ := Option.isSome_iff_exists.1 r0
        have r1 : (w3.cell? ⟨g, k * 3 + 1, none⟩).isSome = true := by rw [Lib.cell_of_heap hg, Array.getElem?_eq_getElem (by omega)]; rfl
        obtain ⟨u1, r1⟩ := Option.isSome_iff_exists.1 r1
        have r2 : (w3.cell? ⟨g, k * 3 + 2, none⟩).isSome = true := by rw [Lib.cell_of_heap hg, Array.getElem?_eq_getElem (by omega)]; rfl
        obtain ⟨u2, r2⟩ := Option.isSome_iff_exists.1 r2
        have z0 : w3.frozen? ⟨g, k * 3, none⟩ = false := Lib.frozen_of_heap hg _
        have z1 : w3.frozen? ⟨g, k * 3 + 1, none⟩ = false := Lib.frozen_of_heap hg _
        have z2 : w3.frozen? ⟨g, k * 3 + 2, none⟩ = false := Lib.frozen_of_heap hg _
        have OV := Lib.hid (FOwn.over f hgb hg hn hc hs ht hkl)
        have HQ : Hid (putL l f = l.take k ++ f :: l.drop (k + 1)) := by show _ = _; rw [HPE.out, HK.out, if_pos HX.out]
        clear hg hs ht hn hc
        go_wp2_with fail
        go_meet
        case rel =>
          refine ⟨?_, hb33.trans OV.out.2⟩
          show FOwn _ _ _ _
          rw [HQ.out]
          have := OV.out.1
          have hle : (l.take k ++ f :: l.drop (k + 1)).length = l.length := by simp; omega
          exact this
      | false =>
        have HX := of_decide_eq_false HIS.out
        have HQ : Hid (putL l f = l.take k ++ f :: l.drop k) := by show _ = _; rw [HPE.out, HK.out, if_neg HX]
        clear HX
        have hba : Below w3.heap.size w3 (w3.alloc (.cells (encFile f).toArray 24)) := (Below.refl _ _).alloc (Nat.le_refl _) _
        have hga := heap_alloc_new w3 (.cells (encFile f).toArray 24)
        have hlt : ∀ q, ov.ownBlock = some q → q < w3.heap.size := fun q hq => (World.ownsRow.lt HO.out q hq).2
        have C := Lib.hid (insertFiles_any f l w.heap.size w3.heap.size k ov (w3.alloc (.cells (encFile f).toArray 24)) hkn (by omega) (HO.out.ext hba) hga (fun e => by have := hlt _ e.symm; omega) (by simp; have := hb33.size; omega))
        obtain ⟨wa, hwa⟩ : ∃ wa, w3.alloc (.cells (encFile f).toArray 24) = wa := ⟨_, rfl⟩
        rw [hwa] at C hba
        have HWA := Lib.hid hwa
        clear hga hlt hwa
        go_wp2_with fail
        rw [HWA.out]
        refine C.out.mono ?_
        rintro e w4 ⟨⟨o2, rfl, H2⟩, hb4⟩
        go_wp2_with fail
        go_meet
        case rel =>
          refine ⟨?_, (hb33.trans (hba.mono hb33.size)).trans hb4⟩
          show FOwn _ _ _ _
          rw [HQ.out]
          exact H2.out
    case rest =>
      obtain ⟨HO5, HB5⟩ := hcut
      clear HO hb33 HT3 d0 d1 d2
      obtain ⟨ao5, cap5, rfl⟩ := HO5.out.shape
      have C5 := Lib.hid (treeCheck_any _ (putL l f) wc HO5.out.row (by omega) HPM.out (HE.out.ext HB5.out))
      go_wp2_with fail
      refine C5.out.mono ?_
      rintro e w6 ⟨⟨ev6, rfl, HI6⟩, hb6⟩
      have HO6 := Lib.hid (HO5.out.ext hb6)
      have hb66 := HB5.out.trans (hb6.mono HB5.out.size)
      clear C5 HO5 HB5 hb6
      by_cases hz : (treeEr (putL l f)).code = 0
      · have HY : Hid (putT l f = (⟨0, none⟩, putL l f)) := by show _ = _; rw [HP.out, if_neg (by rw [hz]; decide)]
        obtain rfl : ev6 = .nilIface := IsErr.nil_inv (a := (treeEr (putL l f)).at?) (by have := HI6.out; rw [show treeEr (putL l f) = ⟨(treeEr (putL l f)).code, (treeEr (putL l f)).at?⟩ from rfl, hz] at this; exact this)
        clear hz HP HI6
        go_wp2_with fail
        go_ret2
        rw [HY.out]
        exact ⟨⟨_, _, rfl, .inl ⟨rfl, rfl⟩, HO6⟩, hb66⟩
      · have HY : Hid (putT l f = (⟨(treeEr (putL l f)).code, none⟩, [])) := by show _ = _; rw [HP.out, if_pos hz]
        obtain ⟨t, x, rfl⟩ := IsErr.some_inv HI6.out hz
        have C6 := Lib.hid (treeBare_any _ _ w6 HI6.out)
        clear hz HP
        go_wp2_with fail
        refine C6.out.mono ?_
        rintro e w7 ⟨⟨u7, rfl, HU⟩, rfl⟩
        go_wp2_with fail
        go_ret2
        rw [HY.out]
        exact TPost.none HU hb66
  · obtain ⟨t, x, rfl⟩ := IsErr.some_inv HI.out hz
    have HY : Hid (putT l f = (treeEr l, [])) := by show _ = _; unfold putT; rw [if_pos hz]
    clear hz HT1
    go_wp2_with fail
    go_ret2
    rw [HY.out]
    exact TPost.none HI hb
end Go.Proofs.YtamimigpnhblmaaGreatDoor
