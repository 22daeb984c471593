/- The reference's net: Host, Get: contracts. -/
import Derived.Test.YtpafddeakanopaaDoorRefNetPut
import Derived.Test.YtpafddeakanopaaDoorRefPaths
import Derived.Test.YtpafddeakanopaaDoorNetOf
namespace Go.Proofs.YtpafddeakanopaaDoor
open Go Go.RowKit

theorem Tryd.infoStrN : (Tryd.prog.info? 9).map (fun i => (i.zero, i.size, i.bytes)) = some (some (.string ⟨#[]⟩), 1, 16) := by kernel_rfl
theorem filter_snoc_keep {l : List ByteArray} {k : Nat} (h : k < l.length) {u : ByteArray} (hne : l[k] ≠ u) : (l.take (k + 1)).filter (fun x => x ≠ u) = (l.take k).filter (fun x => x ≠ u) ++ [l[k]] := by
  rw [List.take_add_one, List.getElem?_eq_getElem h, List.filter_append]
  simp [hne]
theorem filter_snoc_drop {l : List ByteArray} {k : Nat} (h : k < l.length) {u : ByteArray} (hne : l[k] = u) : (l.take (k + 1)).filter (fun x => x ≠ u) = (l.take k).filter (fun x => x ≠ u) := by
  rw [List.take_add_one, List.getElem?_eq_getElem h, List.filter_append]
  simp [hne]
/-- The list of hosts that are off is another. -/
theorem rnet_offs {w w3 : World} {B m : Nat} {n : NetB} {vL vO v' : Value} {l : List ByteArray} (h : RNetAt w B m n vL vO) (hb : Below w.heap.size w w3) (hB : B ≤ w.heap.size) (hown : w3.ownsRow w.heap.size 9 1 v' l.length (l.flatMap encStr)) :
    w3.heap[m]? = some (.cells #[vL, vO, .int .i64 n.calls] 74 (0, 0)) ∧ RNetAt (w3.setCell ⟨m, 1, none⟩ v') B m { n with off := l } vL v' ∧ Keeps RNetRow B w (w3.setCell ⟨m, 1, none⟩ v') := by
  have hm : m < w.heap.size := (Array.getElem?_eq_some_iff.1 h.blk).1
  have h3 := h.below hb
  refine ⟨h3.blk, ⟨h.hm, rnet_set h3.blk 1 v', ?_, ?_⟩, (Keeps.of hb hB).trans (Keeps.set h.hm h3.blk (.inl ⟨_, _, rfl⟩))⟩
  · exact ownsRow_setCell_other h3.sites (sites_ne h3) v'
  · exact owns_base2 (ownsRow_setCell_below hown hm v') hB

set_option maxHeartbeats 2000000 in
set_option maxRecDepth 100000 in
theorem refHost_net (B m : Nat) (n : NetB) (u : ByteArray) (on : Bool) (w : World) (h : RNetIs w B m n) (ho : n.off.length ≤ 1000000) (hu : u.size ≤ 100000) (hBw : B ≤ w.heap.size) :
    Calls Tryd.prog 55 #[.pointer (some ⟨m, 0, none⟩), .string u, .bool on] w (RNetPost B m (hostN n u on) w) := by
  obtain ⟨i0, hi0, hz0, hz1, hz2⟩ := info_parts Tryd.infoStrN
  have C := Lib.hid (refIsPart_any u w (by omega))
  have HN := Lib.hid h
  clear h
  go_enter Tryd.func55, Tryd.ntmps55
  go_wp2_with fail
  refine C.out.mono ?_
  clear C
  rintro e w1 ⟨rfl, hb1⟩
  have HN1 := Lib.hid (HN.out.below hb1)
  obtain ⟨p, hp⟩ : ∃ p, partB (bl u) = p := ⟨_, rfl⟩
  rw [hp]
  cases p with
  | false =>
    have hr : hostN n u on = (5, n) := by unfold hostN; rw [hp]; rfl
    have HR := Lib.hid hr
    clear hr hp
    go_wp2_with fail
    go_ret
    rw [HR.out]
    exact RNetPost.same HN1.out hb1 hBw rfl
  | true =>
    have hr : hostN n u on = (0, { n with off := n.off.filter (fun x => x ≠ u) ++ (if on then [] else [u]) }) := by unfold hostN; rw [hp]; rfl
    have HR := Lib.hid hr
    obtain ⟨vL, vO, h1⟩ := HN1.out
    have H1 := Lib.hid h1
    have c1 : w1.cell? ⟨m, 1, none⟩ = some vO := by rw [Lib.cell_of_heap h1.blk]; rfl
    have hm1 : m < w1.heap.size := (Array.getElem?_eq_some_iff.1 h1.blk).1
    have hBs : B ≤ w1.heap.size := Nat.le_trans hBw hb1.size
    obtain ⟨ao, cap, hvo, hlc, hcm, hcell⟩ := (Row.of_owns (enc := encStr) (fun _ => rfl) h1.offs).parts
    rw [hvo] at c1
    have HM := Lib.hid hcell
    obtain ⟨l, hl⟩ : ∃ l, n.off = l := ⟨_, rfl⟩
    rw [hl] at HM ho c1 hlc
    have HL := Lib.hid hl
    clear h1 hr hp hcell HN1 hl hvo
    go_wp2_with fail
    go_loopw [8, 9] (fun dv i wr => ∃ (k : Nat), k ≤ l.length ∧ i = .int .i64 k ∧ Hid (wr.ownsRow w1.heap.size 9 1 dv ((l.take k).filter (fun x => x ≠ u)).length (((l.take k).filter (fun x => x ≠ u)).flatMap encStr)) ∧ Below w1.heap.size w1 wr) (fun _ i _ => l.length - (intOf i).toNat)
    case atStart => exact ⟨0, Nat.zero_le _, rfl, World.ownsRow_nil _ _ _ _, Below.refl _ _⟩
    case round =>
      obtain ⟨k, hk, rfl, HO, hb⟩ := hrel
      have c1' : wr.cell? ⟨m, 1, none⟩ = some (.slice ao l.length cap) := by rw [hb.cell (p := ⟨m, 1, none⟩) hm1]; exact c1
      have hfl : ((l.take k).filter (fun x => x ≠ u)).length ≤ k := Nat.le_trans (List.length_filter_le _ _) (by rw [List.length_take]; omega)
      by_cases hlt : k < l.length
      · obtain ⟨b, off, rfl, hbl, hcl⟩ := HM.out k hlt
        have q0 : wr.cell? ⟨b, off + k, none⟩ = some (.string l[k]) := by rw [hb.cell (p := ⟨b, off + k, none⟩) hbl]; exact hcl k hlt
        clear hcl
        obtain ⟨z, hz⟩ : ∃ z, l[k] = z := ⟨_, rfl⟩
        rw [hz] at q0
        have HZ := Lib.hid hz
        clear hz
        obtain ⟨e, he⟩ : ∃ e, (z.toList == u.toList) = e := ⟨_, rfl⟩
        cases e with
        | true =>
          have hzu : z = u := by
            have := beq_iff_eq.1 he
            rw [toList_bl, toList_bl] at this
            exact bl_eq this
          have H2 : Hid (wr.ownsRow w1.heap.size 9 1 u8 ((l.take (k + 1)).filter (fun x => x ≠ u)).length (((l.take (k + 1)).filter (fun x => x ≠ u)).flatMap encStr)) := by
            show World.ownsRow _ _ _ _ _ _ _
            rw [filter_snoc_drop hlt (by rw [HZ.out, hzu])]; exact HO.out
          clear HO
          go_wp2_with fail
          go_roundw
          case rel => exact ⟨k + 1, by omega, by go_num, H2, hb⟩
          case measure => simp [intOf]; omega
        | false =>
          have hne : l[k] ≠ u := by
            rw [HZ.out]
            rintro rfl
            rw [beq_self_eq_true] at he
            cases he
          have HX := Lib.hid (filter_snoc_keep hlt hne)
          rw [HZ.out] at HX
          clear hne
          obtain ⟨acc, hacc⟩ : ∃ acc, (l.take k).filter (fun x => x ≠ u) = acc := ⟨_, rfl⟩
          rw [hacc] at HO HX hfl
          clear hacc
          go_wp2_with (at_builtin; refine wpList_append_own _ rfl _ _ 25 rfl w1.heap.size 9 i0 (.string ⟨#[]⟩) 1 16 Tryd.underlying25 hi0 hz0 hz1 hz2 rfl (by decide) _ _ _ rfl (HO.out.alloc _) ⟨wr.heap.size, 0, none⟩ 1 1 (encStr z) rfl rfl ?c1 ?c2 ?c3 ?c4 ?c5 ?_)
          case c1 =>
            intro j u hj
            match j, hj with
            | 0, hj => simp at hj; subst hj; simp [Addr.add]
          case c2 => intro u hu; simp at hu; subst hu; rfl
          case c3 => unfold maxLen; omega
          case c4 => omega
          case c5 => have := hb.size; simp; omega
          intro v' w3 hown' hgrow _
          have hown2 : Hid (w3.ownsRow w1.heap.size 9 1 v' ((l.take (k + 1)).filter (fun x => x ≠ u)).length (((l.take (k + 1)).filter (fun x => x ≠ u)).flatMap encStr)) := by
            show World.ownsRow _ _ _ _ _ _ _
            rw [HX.out]
            simpa using hown'
          have hbb : Below w1.heap.size w1 w3 := (hb.alloc hb.size _).grown hgrow (by have := hb.size; simp; omega) (fun g hg => (HO.out.lt g hg).1)
          clear hown' hgrow HO hb HX
          go_wp2_with fail
          go_roundw
          case rel => exact ⟨k + 1, by omega, by go_num, hown2, hbb⟩
          case measure => simp [intOf]; omega
      · obtain rfl : k = l.length := by omega
        rw [List.take_length] at HO hfl
        obtain ⟨acc, hacc⟩ : ∃ acc, l.filter (fun x => x ≠ u) = acc := ⟨_, rfl⟩
        rw [hacc] at HO hfl
        have HA := Lib.hid hacc
        clear hacc
        cases on with
        | true =>
          obtain ⟨hblk, hS, hK⟩ := rnet_offs H1.out hb hBs HO.out
          have g1 : wr.cell? ⟨m, 1, none⟩ = some vO := by rw [Lib.cell_of_heap hblk]; rfl
          have f1 : wr.frozen? ⟨m, 1, none⟩ = false := Lib.frozen_of_heap hblk 1
          obtain ⟨a8, cap8, rfl⟩ : ∃ a8 cap8, u8 = .slice a8 acc.length cap8 := by
            rcases HO.out.2 with ⟨h, h0⟩ | ⟨g, adc, cur, h, _⟩
            · exact ⟨none, 0, by rw [h, h0]⟩
            · exact ⟨_, _, h⟩
          have HS := Lib.hid hS
          clear hblk hS HO
          go_wp2_with fail
          go_ret
          rw [HR.out]
          refine ⟨rfl, ?_, (Keeps.of hb1 hBw).trans hK⟩
          dsimp only
          rw [HL.out, HA.out]
          simp only [if_true, List.append_nil]
          exact ⟨vL, _, HS.out⟩
        | false =>
          go_wp2_with (at_builtin; refine wpList_append_own _ rfl _ _ 25 rfl w1.heap.size 9 i0 (.string ⟨#[]⟩) 1 16 Tryd.underlying25 hi0 hz0 hz1 hz2 rfl (by decide) _ _ _ rfl (HO.out.alloc _) ⟨wr.heap.size, 0, none⟩ 1 1 (encStr u) rfl rfl ?c1 ?c2 ?c3 ?c4 ?c5 ?_)
          case c1 =>
            intro j u hj
            match j, hj with
            | 0, hj => simp at hj; subst hj; simp [Addr.add]
          case c2 => intro u hu; simp at hu; subst hu; rfl
          case c3 => unfold maxLen; omega
          case c4 => omega
          case c5 => have := hb.size; simp; omega
          intro v' w3 hown' hgrow _
          have hown2 : w3.ownsRow w1.heap.size 9 1 v' (acc ++ [u]).length ((acc ++ [u]).flatMap encStr) := by simpa using hown'
          have hbb : Below w1.heap.size w1 w3 := (hb.alloc hb.size _).grown hgrow (by have := hb.size; simp; omega) (fun g hg => (HO.out.lt g hg).1)
          obtain ⟨hblk, hS, hK⟩ := rnet_offs H1.out hbb hBs hown2
          have g1 : w3.cell? ⟨m, 1, none⟩ = some vO := by rw [Lib.cell_of_heap hblk]; rfl
          have f1 : w3.frozen? ⟨m, 1, none⟩ = false := Lib.frozen_of_heap hblk 1
          obtain ⟨g', cap', rfl⟩ := owns_succ hown'
          have HS := Lib.hid hS
          clear hown' hgrow HO hb hblk hS hown2 hbb
          go_wp2_with fail
          go_ret
          rw [HR.out]
          refine ⟨rfl, ?_, (Keeps.of hb1 hBw).trans hK⟩
          dsimp only
          rw [HL.out, HA.out]
          simp only [if_false, Bool.false_eq_true]
          exact ⟨vL, _, HS.out⟩
/-- What the reference's Get answers and leaves. -/
def RGetPost (B m : Nat) (r : List UInt8 × Nat × NetB) (w : World) (e : Ending) (w' : World) : Prop :=
  ∃ x : ByteArray, e = .returned (.tuple #[.string x, .int .i64 r.2.1]) ∧ Hid (bl x = r.1) ∧ RNetIs w' B m r.2.2 ∧ Keeps RNetRow B w w'
theorem rnet_calls {w : World} {B m : Nat} {n : NetB} {vL vO : Value} (h : RNetAt w B m n vL vO) :
    RNetAt (w.setCell ⟨m, 2, none⟩ (.int .i64 ((n.calls : Int) + 1))) B m { n with calls := n.calls + 1 } vL vO ∧ Keeps RNetRow B w (w.setCell ⟨m, 2, none⟩ (.int .i64 ((n.calls : Int) + 1))) :=
  ⟨⟨h.hm, rnet_set h.blk 2 _, ownsRow_setCell_other h.sites (sites_ne h) _, ownsRow_setCell_other h.offs (offs_ne_m h) _⟩, Keeps.set h.hm h.blk (.inl ⟨_, _, rfl⟩)⟩
theorem rget_mk {B m c : Nat} {n : NetB} {w1 w2 w3 w : World} {l : List UInt8} {x : ByteArray} {u : ByteArray} {vL vO : Value} {i : Int} (h : RNetAt w1 B m n vL vO) (hw : w2 = w1.setCell ⟨m, 2, none⟩ (.int .i64 ((n.calls : Int) + 1))) (hb : Below w.heap.size w w1) (hB : B ≤ w.heap.size) (hb2 : Below w2.heap.size w2 w3)
    (hr : getN n u = (l, c, { n with calls := n.calls + 1 })) (hx : bl x = l) (hi : i = (c : Int)) : RGetPost B m (getN n u) w (.returned (.tuple #[.string x, .int .i64 i])) w3 := by
  obtain ⟨h1, h2⟩ := rnet_calls h
  subst hw
  rw [hr, hi]
  exact ⟨x, rfl, hx, ⟨_, _, h1.below hb2⟩, (Keeps.of hb hB).trans (h2.trans (Keeps.of hb2 (Nat.le_trans hB (Nat.le_trans hb.size (by simp)))))⟩

set_option maxHeartbeats 2000000 in
set_option maxRecDepth 100000 in
theorem refGet_net (B m : Nat) (n : NetB) (u : ByteArray) (w : World) (h : RNetIs w B m n) (hok : NetOk n) (ho : n.off.length ≤ 1000000) (hcl : n.calls ≤ 1000000000) (hu : u.size ≤ 100000) (hBw : B ≤ w.heap.size) :
    Calls Tryd.prog 57 #[.pointer (some ⟨m, 0, none⟩), .string u] w (RGetPost B m (getN n u) w) := by
  have C := Lib.hid (refLinkError_any u w hu)
  have HN := Lib.hid h
  have Hok := Lib.hid hok
  clear h hok
  go_enter Tryd.func57, Tryd.ntmps57
  go_wp2_with fail
  refine C.out.mono ?_
  clear C
  rintro e w1 ⟨rfl, hb1⟩
  have HN1 := Lib.hid (HN.out.below hb1)
  obtain ⟨c, hc⟩ : ∃ c, linkE (bl u) = c := ⟨_, rfl⟩
  rw [hc]
  cases c with
  | succ c =>
    have hr : getN n u = ([], c + 1, n) := by unfold getN; rw [hc, if_pos (by omega)]
    have HR := Lib.hid hr
    clear hc hr
    go_wp2_with fail
    go_ret2
    rw [HR.out]
    exact ⟨⟨#[]⟩, by push_cast; rfl, rfl, HN1.out, Keeps.of hb1 hBw⟩
  | zero =>
    have HC := Lib.hid hc
    have hl0 : lkE (bl u) = 0 := by
      unfold linkE at hc
      split at hc
      · assumption
      · rename_i h; exact absurd hc h
    clear hc
    obtain ⟨vL, vO, h1⟩ := HN1.out
    have H1 := Lib.hid h1
    have c2 : w1.cell? ⟨m, 2, none⟩ = some (.int .i64 n.calls) := by rw [Lib.cell_of_heap h1.blk]; rfl
    have f2 : w1.frozen? ⟨m, 2, none⟩ = false := Lib.frozen_of_heap h1.blk 2
    obtain ⟨h2, _⟩ := rnet_calls h1
    obtain ⟨w2, hw2⟩ : ∃ w2, w1.setCell ⟨m, 2, none⟩ (.int .i64 ((n.calls : Int) + 1)) = w2 := ⟨_, rfl⟩
    rw [hw2] at h2
    have HW := Lib.hid hw2.symm
    have H2 := Lib.hid h2
    have C := Lib.hid (refLinkParts_any u w2 hu)
    clear h1 h2
    go_wp2_with fail
    clear hw2
    refine C.out.mono ?_
    clear C
    rintro e w3 ⟨kk, z, pp, rfl, HH, _, hb3⟩
    have hz : bl z = lkH (bl u) := (HH.out hl0).1
    have h3 := H2.out.below hb3
    have c1 : w3.cell? ⟨m, 1, none⟩ = some vO := by rw [Lib.cell_of_heap h3.blk]; rfl
    have C := Lib.hid (refInTexts_any z (Row.of_owns (enc := encStr) (fun _ => rfl) h3.offs) ho)
    rw [hz] at C
    obtain ⟨o, hoo⟩ : ∃ o, (n.off.map bl).contains (lkH (bl u)) = o := ⟨_, rfl⟩
    dsimp only at C
    rw [hoo] at C
    have HO := Lib.hid hoo
    clear hoo h3 HH hz
    go_wp2_with fail
    refine C.out.mono ?_
    clear C
    rintro e w4 ⟨rfl, hb4⟩
    have hb24 := hb3.trans (hb4.mono hb3.size)
    clear c1 hb3 hb4
    cases o with
    | true =>
      have hr : getN n u = ([], 13, { n with calls := n.calls + 1 }) := by unfold getN; rw [HC.out, if_neg (by simp), if_pos HO.out]
      have HR := Lib.hid hr
      clear hr
      go_wp2_with fail
      go_ret2
      exact rget_mk H1.out HW.out hb1 hBw hb24 HR.out rfl rfl
    | false =>
      have C := Lib.hid (refFind_any B m { n with calls := n.calls + 1 } u w4 ⟨_, _, H2.out.below hb24⟩ Hok.out.few)
      dsimp only at C
      go_wp2_with fail
      refine C.out.mono ?_
      clear C
      rintro e w5 ⟨rfl, hb5⟩
      have hb25 := hb24.trans (hb5.mono hb24.size)
      clear hb24 hb5
      rcases hx : siteAt u n.sites with _ | x
      · rw [ixInt_none hx]
        have hr : getN n u = ([], 6, { n with calls := n.calls + 1 }) := by unfold getN; rw [HC.out, if_neg (by simp), if_neg (by rw [HO.out]; simp), hx]
        have HR := Lib.hid hr
        clear hr hx
        go_wp2_with fail
        go_ret2
        exact rget_mk H1.out HW.out hb1 hBw hb25 HR.out rfl rfl
      · have hr : getN n u = (cutText x.text x.cut, 0, { n with calls := n.calls + 1 }) := by unfold getN; rw [HC.out, if_neg (by simp), if_neg (by rw [HO.out]; simp), hx]
        have HR := Lib.hid hr
        obtain ⟨k, hix⟩ := ix_some hx
        obtain ⟨hk, hku, hka, _, _, _⟩ := siteIx_spec hix
        rw [hix, show ixInt (some k) = (k : Int) from rfl]
        obtain rfl : x = n.sites[k] := by rw [hka] at hx; exact (Option.some.inj hx).symm
        obtain ⟨_, hx2, hx3, hx4⟩ := Hok.out.small n.sites[k] (List.getElem_mem hk)
        have h5 := H2.out.below hb25
        obtain ⟨g, cap, hvl, hBg, hmg, hlc, hcm, hcur⟩ := row_block h5 hk
        have c0 : w5.cell? ⟨m, 0, none⟩ = some vL := by rw [Lib.cell_of_heap h5.blk]; rfl
        rw [hvl] at c0
        dsimp only at c0 hlc
        have hq : ∀ j, j < 3 → w5.cell? ⟨g, k * 3 + j, none⟩ = some ((encSite n.sites[k]).getD j undef) := by
          obtain ⟨ao, cap', he, _, _, hcell⟩ := (Row.of_owns (enc := encSite) (fun _ => rfl) h5.sites).three
          obtain ⟨b, off, rfl, _, hcl⟩ := hcell k hk
          rw [hvl] at he
          simp only [Value.slice.injEq, Option.some.injEq, Addr.mk.injEq, and_true, true_and] at he
          obtain ⟨⟨rfl, rfl⟩, _⟩ := he
          intro j hj
          have := hcl k hk j hj
          rw [Nat.zero_add] at this
          exact this
        have q1 : w5.cell? ⟨g, k * 3 + 1, none⟩ = some (.string n.sites[k].text) := hq 1 (by decide)
        have q2 : w5.cell? ⟨g, k * 3 + 2, none⟩ = some (.int .i64 n.sites[k].cut) := hq 2 (by decide)
        generalize n.sites[k] = x at *
        clear hr hx hix hka hcur hq h5 hku hvl
        by_cases hx0 : 0 ≤ x.cut
        · by_cases hxc : x.cut < x.text.size
          · have sl := slice_to x.text x.cut x.cut.toNat (by omega) (by omega)
            have hfin : bl (x.text.extract 0 x.cut.toNat) = cutText x.text x.cut := by
              unfold cutText
              rw [if_pos ⟨hx0, hxc⟩, bl_extract]; simp
            have HF := Lib.hid hfin
            clear hfin
            go_wp2_with fail
            go_ret2
            exact rget_mk H1.out HW.out hb1 hBw hb25 HR.out HF.out rfl
          · have hfin : bl x.text = cutText x.text x.cut := by unfold cutText; rw [if_neg (by omega)]
            have HF := Lib.hid hfin
            clear hfin
            go_wp2_with fail
            go_ret2
            exact rget_mk H1.out HW.out hb1 hBw hb25 HR.out HF.out rfl
        · have hfin : bl x.text = cutText x.text x.cut := by unfold cutText; rw [if_neg (by omega)]
          have HF := Lib.hid hfin
          clear hfin
          go_wp2_with fail
          go_ret2
          exact rget_mk H1.out HW.out hb1 hBw hb25 HR.out HF.out rfl
end Go.Proofs.YtpafddeakanopaaDoor
