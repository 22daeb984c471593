/- The reference's DiffOf: the contract. -/
import Derived.Test.YtgchgdkpipanjaaGreatDoorKRefLocks
import Derived.Test.YtgchgdkpipanjaaGreatDoorKLockDiffs3
import Derived.Test.YtgchgdkpipanjaaGreatDoorKWantPlains
namespace Go.Proofs.YtgchgdkpipanjaaGreatDoor
open Go Go.RowKit

theorem SOwn.keep {w w' : World} {B : Nat} {v : Value} {zs : List ByteArray} (h : SOwn w B v zs) (hb : Below w.heap.size w w') : SOwn w' B v zs := owns_below h hb
theorem SOwn.slice {w : World} {B : Nat} {v : Value} {zs : List ByteArray} (h : SOwn w B v zs) : ∃ ao cap, v = .slice ao zs.length cap := by
  rcases h.2 with ⟨rfl, h0⟩ | ⟨g, cap, cur, rfl, _⟩
  · exact ⟨none, 0, by rw [h0]⟩
  · exact ⟨_, cap, rfl⟩
theorem SOwn.rowLow {w : World} {base B size n : Nat} {e : TypeId} {v : Value} {xs : List Value} (h : w.ownsRow base e size v n xs) (hB : B ≤ base) : w.ownsRow B e size v n xs := by
  refine ⟨h.1, ?_⟩
  rcases h.2 with h0 | ⟨g, cap, cur, hv, hb, hr⟩
  · exact .inl h0
  · exact .inr ⟨g, cap, cur, hv, Nat.le_trans hB hb, hr⟩
/- append(s, x) of one text, s the call's own, x laid in a new block. -/
set_option maxRecDepth 100000 in
theorem wpList_append_text {w : World} {ops : Array Oper} {rest : List Oper} {o : Oper} {a : Act} {Q : Exit → Act → World → Prop} (hgd : o.guard = none) (s x : Operand)
    (ho : o.op = .call { callee := .builtin .append, args := #[s, x], argTypes := #[33, 33] })
    (base : Nat) (v : Value) (zs : List ByteArray) (hs : a.eval s = v) (hown : SOwn w base v zs) (t : ByteArray) (hx : a.eval x = .slice (some ⟨w.heap.size, 0, none⟩) 1 1) (hlen : zs.length ≤ 100000) (hbase : base ≤ w.heap.size)
    (h : ∀ v' w', Hid (SOwn w' base v' (zs ++ [t])) → Hid (∀ w0, Below base w0 w → Below base w0 w') → wpList Tryz.prog ops Q rest (a.put o.dst v') w') : wpList Tryz.prog ops Q (o :: rest) a (w.alloc (.cells #[.string t] 9)) := by
  obtain ⟨i0, hi0, hz0, hz1, hz2⟩ := info_parts Tryz.infoStr
  have h1a := World.ownsRow.alloc hown (.cells #[.string t] 9)
  refine wpList_append_own _ hgd s x 33 ho base 9 i0 (.string ⟨#[]⟩) 1 16 Tryz.underlying33 hi0 hz0 hz1 hz2 rfl (by decide) v zs.length _ hs h1a ⟨w.heap.size, 0, none⟩ 1 1 [.string t] hx rfl ?c1 ?c2 ?c3 ?c4 ?c5 ?_
  case c1 =>
    intro j y hj
    match j, hj with
    | 0, hj =>
      obtain rfl : Value.string t = y := by simpa using hj
      rw [Addr.add_lit, World.cell?_alloc_at _ _ _ _ rfl]; rfl
    | j + 1, hj => simp at hj
  case c2 =>
    intro y hy
    obtain rfl := List.mem_singleton.1 hy
    rfl
  case c3 => rw [maxLen_eq]; omega
  case c4 => omega
  case c5 => simp; omega
  intro v' w' ho' hg' _
  refine h v' w' ?_ (fun w0 hb => ?_)
  · show World.ownsRow _ _ _ _ _ _ _
    rw [List.length_append, List.map_append]
    exact ho'
  · have hb2 := hb.alloc hbase (.cells #[.string t] 9)
    exact hb2.grown hg' (by simp; omega) (fun q hq => (World.ownsRow.lt hown q hq).1)
theorem two_left (n : ByteArray) : (⟨#[45, 32]⟩ : ByteArray) ++ n = dS (45, n) := bl_inj (by rw [bl_append, bl_dS]; rfl)
theorem two_right (n : ByteArray) : (⟨#[43, 32]⟩ : ByteArray) ++ n = dS (43, n) := bl_inj (by rw [bl_append, bl_dS]; rfl)
theorem two_other (n : ByteArray) : (⟨#[42, 32]⟩ : ByteArray) ++ n = dS (42, n) := bl_inj (by rw [bl_append, bl_dS]; rfl)

/-- What differs so far, and what is to come. -/
def DStep (a b : List WantB) (i k : Nat) (acc : List (UInt8 × ByteArray)) : Prop := diffGo a b = acc ++ diffGo (a.drop i) (b.drop k)
theorem DStep.zero (a b : List WantB) : DStep a b 0 0 [] := rfl
theorem DStep.done {a b : List WantB} {i k : Nat} {acc : List (UInt8 × ByteArray)} (h : DStep a b i k acc) (hi : ¬ i < a.length) (hk : ¬ k < b.length) : diffGo a b = acc := by
  unfold DStep at h
  rw [List.drop_eq_nil_of_le (by omega), List.drop_eq_nil_of_le (by omega), diffGo, List.append_nil] at h
  exact h
theorem DStep.lone {a b : List WantB} {i k : Nat} {acc : List (UInt8 × ByteArray)} (h : DStep a b i k acc) (hi : i < a.length) (hk : ¬ k < b.length) : DStep a b (i + 1) k (acc ++ [(45, a[i].name)]) := by
  unfold DStep at h ⊢
  rw [List.drop_eq_getElem_cons hi, List.drop_eq_nil_of_le (show b.length ≤ k by omega), diffGo] at h
  rw [h, List.drop_eq_nil_of_le (show b.length ≤ k by omega)]; simp
theorem DStep.new {a b : List WantB} {i k : Nat} {acc : List (UInt8 × ByteArray)} (h : DStep a b i k acc) (hi : ¬ i < a.length) (hk : k < b.length) : DStep a b i (k + 1) (acc ++ [(43, b[k].name)]) := by
  unfold DStep at h ⊢
  rw [List.drop_eq_nil_of_le (show a.length ≤ i by omega), List.drop_eq_getElem_cons hk, diffGo] at h
  rw [h, List.drop_eq_nil_of_le (show a.length ≤ i by omega)]; simp
theorem DStep.lt {a b : List WantB} {i k : Nat} {acc : List (UInt8 × ByteArray)} (h : DStep a b i k acc) (hi : i < a.length) (hk : k < b.length) (h1 : wLt a[i] b[k]) : DStep a b (i + 1) k (acc ++ [(45, a[i].name)]) := by
  unfold DStep at h ⊢
  rw [List.drop_eq_getElem_cons hi, List.drop_eq_getElem_cons hk, diffGo, if_pos h1, ← List.drop_eq_getElem_cons hk] at h
  rw [h]; simp
theorem DStep.gt {a b : List WantB} {i k : Nat} {acc : List (UInt8 × ByteArray)} (h : DStep a b i k acc) (hi : i < a.length) (hk : k < b.length) (h1 : ¬ wLt a[i] b[k]) (h2 : wLt b[k] a[i]) : DStep a b i (k + 1) (acc ++ [(43, b[k].name)]) := by
  unfold DStep at h ⊢
  rw [List.drop_eq_getElem_cons hi, List.drop_eq_getElem_cons hk, diffGo, if_neg h1, if_pos h2, ← List.drop_eq_getElem_cons hi] at h
  rw [h]; simp
theorem DStep.eq {a b : List WantB} {i k : Nat} {acc : List (UInt8 × ByteArray)} (h : DStep a b i k acc) (hi : i < a.length) (hk : k < b.length) (h1 : ¬ wLt a[i] b[k]) (h2 : ¬ wLt b[k] a[i]) : DStep a b (i + 1) (k + 1) (acc ++ if a[i] = b[k] then [] else [(42, a[i].name)]) := by
  unfold DStep at h ⊢
  rw [List.drop_eq_getElem_cons hi, List.drop_eq_getElem_cons hk, diffGo, if_neg h1, if_neg h2] at h
  rw [h]; simp
/-- What the reference's DiffOf hands back. -/
def RDiffPost (r : Er × List (UInt8 × ByteArray)) (w : World) (e : Ending) (w' : World) : Prop := (∃ v, e = .returned (.tuple #[v, .agg (erA r.1)]) ∧ Hid (SOwn w' w.heap.size v (r.2.map dS))) ∧ Below w.heap.size w w'
theorem wLt_bytes (x y : WantB) : decide (wLt x y) = Op.bytesLess x.name.toList y.name.toList := by rw [less_eq, toList_bl, toList_bl]; rfl
theorem lt_both {x y : List UInt8} (h1 : ¬ x < y) (h2 : ¬ y < x) : x = y := List.le_antisymm (List.not_lt.1 h2) (List.not_lt.1 h1)
theorem gt_other {x y : WantB} {z : Bool} (h : ¬ wLt x y) (hz : (x.name.toList == y.name.toList) = z) : decide (wLt y x) = !z := by
  cases z with
  | true =>
    have e : bl x.name = bl y.name := by rw [← toList_bl, ← toList_bl]; exact eq_of_beq hz
    refine decide_eq_false fun k => ?_
    have k' : bl y.name < bl x.name := k
    rw [e] at k'
    exact List.lt_irrefl _ k'
  | false =>
    have e : bl x.name ≠ bl y.name := fun e => by
      rw [toList_bl, toList_bl, e, beq_self_eq_true] at hz
      cases hz
    refine decide_eq_true ?_
    show bl y.name < bl x.name
    exact Classical.byContradiction fun k => e (lt_both h k)
theorem want_short {w : WantB} (h : wantE w = 0) : w.name.size ≤ 12 := by
  have := partB_len (wantE_zero h).name
  rwa [bl_length] at this

set_option maxHeartbeats 4000000 in
set_option maxRecDepth 100000 in
theorem refDiff_any (va vb : Value) (l m : List WantB) (w : World) (hva : WRow w va l) (hvb : WRow w vb m) (hl : l.length ≤ 100000) (hm : m.length ≤ 100000) (hS : ∀ f ∈ l, SmallW f) (hT : ∀ f ∈ m, SmallW f) :
    Calls Tryz.prog 33 #[va, vb] w (RDiffPost (diffLk l m) w) := by
  have HV := Lib.hid hva
  have HU := Lib.hid hvb
  have HSM := Lib.hid hS
  have HTM := Lib.hid hT
  obtain ⟨g, hg⟩ : ∃ g, w.heap.size = g := ⟨_, rfl⟩
  obtain ⟨wg, hwg⟩ : ∃ wg, w.alloc (.cells #[.int .i64 0, .int .i64 0] 59) = wg := ⟨_, rfl⟩
  have hal : Below w.heap.size w wg := by rw [← hwg]; exact (Below.refl _ _).alloc (Nat.le_refl _) _
  have FG := Lib.hid (show FaultAt wg g 0 0 by rw [← hwg, ← hg]; exact FaultAt.new w 0 0)
  have hgw : w.heap.size ≤ g := Nat.le_of_eq hg
  have BG := Lib.hid hal
  have HWG := Lib.hid hwg
  have HG := Lib.hid hg
  have C := Lib.hid (refLockFault_any va l wg (hva.ext hal) hl hS)
  obtain ⟨ao, cap, rfl⟩ := hva.len
  obtain ⟨bo, bcp, rfl⟩ := hvb.len
  clear hal hwg hg hva hvb hS hT
  go_enter Tryz.func33, Tryz.ntmps33
  go_wp2_with fail
  rw [HWG.out, HG.out]
  refine C.out.mono ?_
  clear C
  rintro e w1 ⟨rfl, hb1⟩
  have F1 := Lib.hid (FG.out.ext hb1)
  have B1 := Lib.hid (BG.out.trans (hb1.mono BG.out.size))
  obtain ⟨c, hc⟩ : ∃ c, (lockEr l).code = c := ⟨_, rfl⟩
  obtain ⟨a, ha⟩ : ∃ a : Int, (lockEr l).at?.getD (-1) = a := ⟨_, rfl⟩
  have HC := Lib.hid hc
  have HA := Lib.hid ha
  rw [show erA (lockEr l) = #[.int .i64 c, .int .i64 a] by unfold erA; rw [hc, ha]]
  obtain ⟨q, hq⟩ : ∃ q, w1.heap.size = q := ⟨_, rfl⟩
  obtain ⟨w2, hw2⟩ : ∃ w2, w1.alloc (.cells #[.int .i64 c, .int .i64 a] 59) = w2 := ⟨_, rfl⟩
  have hal2 : Below w1.heap.size w1 w2 := by rw [← hw2]; exact (Below.refl _ _).alloc (Nat.le_refl _) _
  have FQ := Lib.hid (show FaultAt w2 q c a by rw [← hw2, ← hq]; exact FaultAt.new w1 _ _)
  have F2 := Lib.hid (F1.out.ext hal2)
  have B2 := Lib.hid (B1.out.trans (hal2.mono B1.out.size))
  have HW2 := Lib.hid hw2
  have HQ := Lib.hid hq
  have hqw : w.heap.size ≤ q := by rw [← HQ.out]; exact Nat.le_trans hgw (Nat.le_of_lt F1.out.lt)
  have hgq : g ≠ q := by have := F1.out.lt; omega
  clear hb1 hc ha hal2 hw2 hq FG BG F1 B1
  obtain ⟨x0, x1, _, _⟩ := FQ.out.cells
  obtain ⟨y0, y1, y2, y3⟩ := F2.out.cells
  go_upto_region 2 with fail
  rw [HW2.out, HQ.out]
  by_cases hz : c = 0
  rotate_left
  · have hpos : (0 : Int) < (c : Int) := by omega
    have e0 : ((c : Int) == 0) = false := by rw [beq_eq_false_iff_ne]; omega
    have HY : Hid (diffLk l m = (lockEr l, [])) := by show _ = _; unfold diffLk; rw [if_pos (by rw [HC.out]; exact hz)]
    clear hz
    go_wp2_with fail
    go_region
    all_goals go_wp2_with fail
    obtain ⟨s0, s1, s2⟩ := fault_end F2.out c a w.heap.size hgw
    rw [HY.out]
    refine bodyPost_ret (v := .tuple #[.slice none 0 0, .agg #[.int .i64 c, .int .i64 a]]) ?_ rfl ⟨⟨_, by unfold erA; rw [HC.out, HA.out], World.ownsRow_nil _ _ _ _⟩, (B2.out.trans s2).drew⟩
    simp [results, Tryz.results33, go_sem, s0, s1]
  have HZ : Hid ((lockEr l).code = 0) := by show _ = _; rw [HC.out]; exact hz
  obtain rfl : c = 0 := hz
  rw [show ((0 : Nat) : Int) = 0 from rfl] at x0 ⊢
  have C := Lib.hid (refLockFault_any (.slice bo m.length bcp) m w2 (HU.out.ext B2.out) hm HTM.out)
  go_wp2_with fail
  refine C.out.mono ?_
  clear C x0 x1 y0 y1 y2 y3
  rintro e w3 ⟨rfl, hb3⟩
  obtain ⟨c2, hc2⟩ : ∃ c, (lockEr m).code = c := ⟨_, rfl⟩
  obtain ⟨a2, ha2⟩ : ∃ a : Int, (lockEr m).at?.getD (-1) = a := ⟨_, rfl⟩
  have HC2 := Lib.hid hc2
  have HA2 := Lib.hid ha2
  rw [show erA (lockEr m) = #[.int .i64 c2, .int .i64 a2] by unfold erA; rw [hc2, ha2]]
  have FQ3 := Lib.hid (FQ.out.ext hb3)
  have F3 := Lib.hid (F2.out.ext hb3)
  have B3 := Lib.hid (B2.out.trans (hb3.mono B2.out.size))
  have FQ4 := Lib.hid (FQ3.out.store c2 a2)
  have F4 := Lib.hid (F3.out.other hgq (.int .i64 c2) (.int .i64 a2))
  have B4 := Lib.hid (store_below B3.out hqw (.int .i64 c2) (.int .i64 a2))
  obtain ⟨x0, x1, x2, x3⟩ := FQ3.out.cells
  obtain ⟨w4, hw4⟩ : ∃ w4, (w3.setCell ⟨q, 0, none⟩ (.int .i64 c2)).setCell ⟨q, 1, none⟩ (.int .i64 a2) = w4 := ⟨_, rfl⟩
  rw [hw4] at FQ4 F4 B4
  have HW4 := Lib.hid hw4
  clear hb3 hc2 ha2 hw4 F3 FQ F2
  go_upto_region 4 with fail
  rw [HW4.out]
  clear x0 x1 x2 x3 FQ3
  obtain ⟨x0, x1, _, _⟩ := FQ4.out.cells
  obtain ⟨y0, y1, y2, y3⟩ := F4.out.cells
  by_cases hz : c2 = 0
  rotate_left
  · have hpos : (0 : Int) < (c2 : Int) := by omega
    have HY : Hid (diffLk l m = (lockEr m, [])) := by show _ = _; unfold diffLk; rw [if_neg (by rw [HZ.out]; simp), if_pos (by rw [HC2.out]; exact hz)]
    clear hz
    go_wp2_with fail
    go_region
    all_goals go_wp2_with fail
    obtain ⟨s0, s1, s2⟩ := fault_end F4.out c2 a2 w.heap.size hgw
    rw [HY.out]
    refine bodyPost_ret (v := .tuple #[.slice none 0 0, .agg #[.int .i64 c2, .int .i64 a2]]) ?_ rfl ⟨⟨_, by unfold erA; rw [HC2.out, HA2.out], World.ownsRow_nil _ _ _ _⟩, (B4.out.trans s2).drew⟩
    simp [results, Tryz.results33, go_sem, s0, s1]
  have HZ2 : Hid ((lockEr m).code = 0) := by show _ = _; rw [HC2.out]; exact hz
  have OKL := Lib.hid ((lockOk_iff l).1 HZ.out)
  have OKM := Lib.hid ((lockOk_iff m).1 HZ2.out)
  have hl20 := OKL.out.few
  have hm20 := OKM.out.few
  obtain rfl : c2 = 0 := hz
  rw [show ((0 : Nat) : Int) = 0 from rfl] at x0 FQ4 ⊢
  have HA1 : Hid (a2 = -1) := by
    show _ = _
    rw [← HA2.out, OKM.out.er]; rfl
  have HD : Hid (diffLk l m = (⟨0, none⟩, diffGo l m)) := by show _ = _; unfold diffLk; rw [if_neg (by rw [HZ.out]; simp), if_neg (by rw [HZ2.out]; simp)]
  have HNL : Hid (∀ f ∈ l, f.name.size ≤ 12) := fun f hf => want_short (OKL.out.each f hf)
  have HNM : Hid (∀ f ∈ m, f.name.size ≤ 12) := fun f hf => want_short (OKM.out.each f hf)
  obtain ⟨we, rfl⟩ : ∃ we, we = w4 := ⟨_, rfl⟩
  have hgwe : g < we.heap.size := F4.out.lt
  go_wp2_with fail
  clear x0 x1 y0 y1 y2 y3
  go_loopw [7, 8, 9] (fun ov i j wr => ∃ (i0 k : Nat) (acc : List (UInt8 × ByteArray)), i0 ≤ l.length ∧ k ≤ m.length ∧ i = .int .i64 i0 ∧ j = .int .i64 k ∧ acc.length ≤ i0 + k ∧ Hid (DStep l m i0 k acc) ∧ Hid (SOwn wr we.heap.size ov (acc.map dS)) ∧ Hid (Below we.heap.size we wr)) (fun _ i j _ => (l.length - (intOf i).toNat) + (m.length - (intOf j).toNat))
  case atStart => exact ⟨0, 0, [], Nat.zero_le _, Nat.zero_le _, rfl, rfl, Nat.zero_le _, DStep.zero _ _, World.ownsRow_nil _ _ _ _, Below.refl _ _⟩
  case round =>
    obtain ⟨i, k, acc, hi, hk, rfl, rfl, hacc, HS, HO, Bq⟩ := hrel
    obtain ⟨oo, oc, rfl⟩ := HO.out.slice
    have Bw := Lib.hid (B4.out.trans (Bq.out.mono B4.out.size))
    have hal2 : (acc.map dS).length ≤ 100000 := by rw [List.length_map]; omega
    obtain ⟨za, hza⟩ : ∃ z, acc.map dS = z := ⟨_, rfl⟩
    have HZA := Lib.hid hza
    rw [hza] at HO hal2 ⊢
    clear hza
    have HDN : Hid (∀ (p : UInt8 × ByteArray) (t : ByteArray) (v' : Value) (w' : World), t = dS p → Hid (SOwn w' we.heap.size v' (za ++ [t])) → Hid (SOwn w' we.heap.size v' ((acc ++ [p]).map dS))) := fun p t v' w' e h => by
      show SOwn _ _ _ _
      rw [List.map_append, HZA.out]
      subst e
      exact h.out
    by_cases hlk : k < m.length
    · obtain ⟨b2, off2, rfl, hcell2⟩ := HU.out.at hlk
      have hnm := HNM.out m[k] (List.getElem_mem hlk)
      have HCB := Lib.hid hcell2
      clear hcell2
      by_cases hli : i < l.length
      · obtain ⟨b1, off1, rfl, hcell1⟩ := HV.out.at hli
        have hnl := HNL.out l[i] (List.getElem_mem hli)
        have HCA := Lib.hid hcell1
        have HL1 := Lib.hid (HS.out.lt hli hlk)
        have HG1 := Lib.hid (HS.out.gt hli hlk)
        have HE1 := Lib.hid (HS.out.eq hli hlk)
        clear hcell1 HS
        obtain ⟨x, hx⟩ : ∃ x, l[i] = x := ⟨_, rfl⟩
        obtain ⟨y, hy⟩ : ∃ y, m[k] = y := ⟨_, rfl⟩
        rw [hx] at HCA HL1 HG1 HE1 hnl
        rw [hy] at HCB HL1 HG1 HE1 hnm
        clear hx hy
        have e1 : ((k : Int) == (m.length : Int)) = false := by rw [beq_eq_false_iff_ne]; omega
        have e2 : ((i : Int) == (l.length : Int)) = false := by rw [beq_eq_false_iff_ne]; omega
        have n1 : ¬ 9223372036854775807 < 2 + y.name.size := by omega
        have n2 : ¬ 9223372036854775807 < 2 + x.name.size := by omega
        obtain ⟨q0, q1, q2, q3, q4⟩ := HCA.out wr Bw.out
        obtain ⟨p0, p1, p2, p3, p4⟩ := HCB.out wr Bw.out
        obtain ⟨bq, hbq⟩ : ∃ bq, Op.bytesLess x.name.toList y.name.toList = bq := ⟨_, rfl⟩
        have HBQ : Hid (decide (wLt x y) = bq) := by show _ = _; rw [wLt_bytes]; exact hbq
        go_wp2_with fail
        go_quiet (fail)
        clear q0 q1 q2 q3 q4 p0 p1 p2 p3 p4
        obtain ⟨wq, hwq⟩ : ∃ wq, wr.drewN nq = wq := ⟨_, rfl⟩
        have hd : Below wr.heap.size wr wq := by rw [← hwq]; exact below_drewN _ wr nq
        have Bq2 := Lib.hid (Bq.out.trans (hd.mono Bq.out.size))
        have Bw2 := Lib.hid (Bw.out.trans (hd.mono Bw.out.size))
        have HO2 := Lib.hid (HO.out.keep hd)
        rw [hwq]
        clear hwq hd HO Bq Bw hbq
        obtain ⟨q0, q1, q2, q3, q4⟩ := HCA.out wq Bw2.out
        obtain ⟨p0, p1, p2, p3, p4⟩ := HCB.out wq Bw2.out
        cases bq with
        | true =>
          have HN := Lib.hid (HL1.out (of_decide_eq_true HBQ.out))
          clear HL1 HG1 HE1 HBQ
          go_wp2_with (at_builtin; refine wpList_append_text rfl _ _ rfl we.heap.size (.slice oo za.length oc) za rfl HO2.out (({ data := #[45, 32] } : ByteArray) ++ x.name) rfl hal2 Bq2.out.size ?_)
          intro v6 w6 HO6' HB6'
          have HO6 := Lib.hid (HDN.out (45, x.name) _ _ _ (two_left x.name) HO6').out
          have B6 := Lib.hid (HB6'.out we Bq2.out)
          clear HO6' HB6' q0 q1 q2 q3 q4 p0 p1 p2 p3 p4
          go_wp2_with fail
          go_roundw
          case rel => exact ⟨i + 1, k, _, by omega, hk, by go_num, rfl, by simp; omega, HN, HO6, B6⟩
          case measure => simp [intOf]; omega
        | false =>
          have hn1 : ¬ wLt x y := of_decide_eq_false HBQ.out
          have h0 : Op.bytesLess x.name.toList y.name.toList = false := by rw [← wLt_bytes]; exact HBQ.out
          obtain ⟨zq, hbq⟩ : ∃ zq, (x.name.toList == y.name.toList) = zq := ⟨_, rfl⟩
          have HBR : Hid (decide (wLt y x) = !zq) := gt_other hn1 hbq
          have HN1 := Lib.hid hn1
          clear HL1 HBQ hn1
          go_wp2_with fail
          go_quiet (fail)
          clear q0 q1 q2 q3 q4 p0 p1 p2 p3 p4
          obtain ⟨wq3, hwq⟩ : ∃ wq3, wq.drewN nq = wq3 := ⟨_, rfl⟩
          have hd : Below wq.heap.size wq wq3 := by rw [← hwq]; exact below_drewN _ wq nq
          have Bq3 := Lib.hid (Bq2.out.trans (hd.mono Bq2.out.size))
          have Bw3 := Lib.hid (Bw2.out.trans (hd.mono Bw2.out.size))
          have HO3 := Lib.hid (HO2.out.keep hd)
          rw [hwq]
          clear hwq hd HO2 Bq2 Bw2 hbq h0
          obtain ⟨q0, q1, q2, q3, q4⟩ := HCA.out wq3 Bw3.out
          obtain ⟨p0, p1, p2, p3, p4⟩ := HCB.out wq3 Bw3.out
          cases zq with
          | false =>
            have HN := Lib.hid (HG1.out HN1.out (of_decide_eq_true HBR.out))
            clear HG1 HE1 HBR HN1
            go_wp2_with (at_builtin; refine wpList_append_text rfl _ _ rfl we.heap.size (.slice oo za.length oc) za rfl HO3.out (({ data := #[43, 32] } : ByteArray) ++ y.name) rfl hal2 Bq3.out.size ?_)
            intro v6 w6 HO6' HB6'
            have HO6 := Lib.hid (HDN.out (43, y.name) _ _ _ (two_right y.name) HO6').out
            have B6 := Lib.hid (HB6'.out we Bq3.out)
            clear HO6' HB6' q0 q1 q2 q3 q4 p0 p1 p2 p3 p4
            go_wp2_with fail
            go_roundw
            case rel => exact ⟨i, k + 1, _, hi, by omega, rfl, by go_num, by simp; omega, HN, HO6, B6⟩
            case measure => simp [intOf]; omega
          | true =>
            have HN := Lib.hid (HE1.out HN1.out (of_decide_eq_false HBR.out))
            have hnn : x.name = y.name := by
              have h1 : ¬ bl x.name < bl y.name := HN1.out
              have h2 : ¬ bl y.name < bl x.name := of_decide_eq_false HBR.out
              exact bl_inj (lt_both h1 h2)
            clear HG1 HE1 HBR HN1
            by_cases hxy : x = y
            · rw [if_pos hxy, List.append_nil] at HN
              subst hxy
              have e0 : (x.name.toList == x.name.toList) = true := beq_self_eq_true _
              have e1' : (x.url.toList == x.url.toList) = true := beq_self_eq_true _
              have e2' : (x.kind.toList == x.kind.toList) = true := beq_self_eq_true _
              have e3 : (x.strip == x.strip) = true := beq_self_eq_true _
              have e4 : (x.sum == x.sum) = true := beq_self_eq_true _
              clear hnn
              go_wp2_with fail
              go_quiet (fail)
              clear q0 q1 q2 q3 q4 p0 p1 p2 p3 p4
              obtain ⟨wq4, hwq⟩ : ∃ wq4, wq3.drewN nq = wq4 := ⟨_, rfl⟩
              have hd : Below wq3.heap.size wq3 wq4 := by rw [← hwq]; exact below_drewN _ wq3 nq
              have Bq4 := Lib.hid (Bq3.out.trans (hd.mono Bq3.out.size))
              have HO4 : Hid (SOwn wq4 we.heap.size (.slice oo za.length oc) (acc.map dS)) := by show SOwn _ _ _ _; rw [HZA.out]; exact HO3.out.keep hd
              rw [hwq]
              clear hwq hd HO3
              go_wp2_with fail
              go_roundw
              case rel => exact ⟨i + 1, k + 1, acc, by omega, by omega, by go_num, by go_num, by omega, HN, HO4, Bq4⟩
              case measure => simp [intOf]; omega
            · rw [if_neg hxy] at HN
              have e0 : (x.name.toList == y.name.toList) = true := by rw [hnn]; exact beq_self_eq_true _
              have e1' := str_eqb x.url y.url
              have e2' := str_eqb x.kind y.kind
              have e3 := int_eqb x.strip y.strip
              have e4 := int_eqb x.sum y.sum
              have hf := (not_congr (want_eq x y)).1 hxy
              obtain ⟨z1, hz1⟩ : ∃ z, decide (x.url = y.url) = z := ⟨_, rfl⟩
              obtain ⟨z2, hz2⟩ : ∃ z, decide (x.kind = y.kind) = z := ⟨_, rfl⟩
              obtain ⟨z3, hz3⟩ : ∃ z, decide (x.strip = y.strip) = z := ⟨_, rfl⟩
              obtain ⟨z4, hz4⟩ : ∃ z, decide (x.sum = y.sum) = z := ⟨_, rfl⟩
              rw [hz1] at e1'
              rw [hz2] at e2'
              rw [hz3] at e3
              rw [hz4] at e4
              have hnot : ¬ (z1 = true ∧ z2 = true ∧ z3 = true ∧ z4 = true) := fun ⟨h1, h2, h3, h4⟩ => hf ⟨hnn, of_decide_eq_true (hz1.trans h1), of_decide_eq_true (hz2.trans h2), of_decide_eq_true (hz3.trans h3), of_decide_eq_true (hz4.trans h4)⟩
              clear hf hz1 hz2 hz3 hz4 hxy hnn
              cases z1 <;> cases z2 <;> cases z3 <;> cases z4 <;> first | (exact absurd ⟨rfl, rfl, rfl, rfl⟩ hnot) | skip
              all_goals
                clear hnot
                go_wp2_with fail
                go_quiet (fail)
                clear q0 q1 q2 q3 q4 p0 p1 p2 p3 p4
                obtain ⟨wq4, hwq⟩ : ∃ wq4, wq3.drewN nq = wq4 := ⟨_, rfl⟩
                have hd : Below wq3.heap.size wq3 wq4 := by rw [← hwq]; exact below_drewN _ wq3 nq
                have Bq4 := Lib.hid (Bq3.out.trans (hd.mono Bq3.out.size))
                have Bw4 := Lib.hid (Bw3.out.trans (hd.mono Bw3.out.size))
                have HO4 := Lib.hid (HO3.out.keep hd)
                rw [hwq]
                clear hwq hd HO3
                obtain ⟨q0, _, _, _, _⟩ := HCA.out wq4 Bw4.out
                go_wp2_with (at_builtin; refine wpList_append_text rfl _ _ rfl we.heap.size (.slice oo za.length oc) za rfl HO4.out (({ data := #[42, 32] } : ByteArray) ++ x.name) rfl hal2 Bq4.out.size ?_)
                intro v6 w6 HO6' HB6'
                have HO6 := Lib.hid (HDN.out (42, x.name) _ _ _ (two_other x.name) HO6').out
                have B6 := Lib.hid (HB6'.out we Bq4.out)
                clear HO6' HB6' q0
                go_wp2_with fail
                go_roundw
                case rel => exact ⟨i + 1, k + 1, _, by omega, by omega, by go_num, by go_num, by simp; omega, HN, HO6, B6⟩
                case measure => simp [intOf]; omega
      · obtain ⟨p0, p1, p2, p3, p4⟩ := HCB.out wr Bw.out
        have HN := Lib.hid (HS.out.new hli hlk)
        obtain ⟨y, hy⟩ : ∃ y, m[k] = y := ⟨_, rfl⟩
        rw [hy] at p0 p1 p2 p3 p4 HN hnm
        have e1 : ((k : Int) == (m.length : Int)) = false := by rw [beq_eq_false_iff_ne]; omega
        have e2 : ((i : Int) == (l.length : Int)) = true := by rw [beq_iff_eq]; omega
        have n1 : ¬ 9223372036854775807 < 2 + y.name.size := by omega
        clear hy HS HCB
        go_wp2_with (at_builtin; refine wpList_append_text rfl _ _ rfl we.heap.size (.slice oo za.length oc) za rfl HO.out (({ data := #[43, 32] } : ByteArray) ++ y.name) rfl hal2 Bq.out.size ?_)
        intro v6 w6 HO6' HB6'
        have HO6 := Lib.hid (HDN.out (43, y.name) _ _ _ (two_right y.name) HO6').out
        have B6 := Lib.hid (HB6'.out we Bq.out)
        clear HO6' HB6' p0 p1 p2 p3 p4
        go_wp2_with fail
        go_roundw
        case rel => exact ⟨i, k + 1, _, hi, by omega, rfl, by go_num, by simp; omega, HN, HO6, B6⟩
        case measure => simp [intOf]; omega
    · have e1 : ((k : Int) == (m.length : Int)) = true := by rw [beq_iff_eq]; omega
      by_cases hli : i < l.length
      · obtain ⟨b1, off1, rfl, hcell1⟩ := HV.out.at hli
        obtain ⟨q0, q1, q2, q3, q4⟩ := hcell1 wr Bw.out
        have hnl := HNL.out l[i] (List.getElem_mem hli)
        have HN := Lib.hid (HS.out.lone hli hlk)
        clear hcell1 HS
        obtain ⟨x, hx⟩ : ∃ x, l[i] = x := ⟨_, rfl⟩
        rw [hx] at q0 q1 q2 q3 q4 HN hnl
        have n1 : ¬ 9223372036854775807 < 2 + x.name.size := by omega
        clear hx
        go_wp2_with (at_builtin; refine wpList_append_text rfl _ _ rfl we.heap.size (.slice oo za.length oc) za rfl HO.out (({ data := #[45, 32] } : ByteArray) ++ x.name) rfl hal2 Bq.out.size ?_)
        intro v6 w6 HO6' HB6'
        have HO6 := Lib.hid (HDN.out (45, x.name) _ _ _ (two_left x.name) HO6').out
        have B6 := Lib.hid (HB6'.out we Bq.out)
        clear HO6' HB6' q0 q1 q2 q3 q4
        go_wp2_with fail
        go_roundw
        case rel => exact ⟨i + 1, k, _, by omega, hk, by go_num, rfl, by simp; omega, HN, HO6, B6⟩
        case measure => simp [intOf]; omega
      · have HY := Lib.hid (HS.out.done hli hlk)
        have F5 := Lib.hid (F4.out.ext Bq.out)
        have FX := Lib.hid (FQ4.out.ext Bq.out)
        obtain ⟨x0, x1, _, _⟩ := FX.out.cells
        obtain ⟨y0, y1, y2, y3⟩ := F5.out.cells
        have HO2 : Hid (SOwn wr we.heap.size (.slice oo za.length oc) (acc.map dS)) := by show SOwn _ _ _ _; rw [HZA.out]; exact HO.out
        clear HS e1
        go_wp2_with fail
        go_region
        all_goals go_wp2_with fail
        obtain ⟨s0, s1, s2⟩ := fault_end F5.out 0 a2 w.heap.size hgw
        have HTZ : Hid (SOwn ((wr.setCell ⟨g, 0, none⟩ (.int .i64 0)).setCell ⟨g, 1, none⟩ (.int .i64 a2)) we.heap.size (.slice oo za.length oc) (acc.map dS)) := ownsRow_setCell_below (ownsRow_setCell_below HO2.out (a := ⟨g, 0, none⟩) hgwe _) (a := ⟨g, 1, none⟩) hgwe _
        rw [HD.out, HY.out]
        refine bodyPost_ret (v := .tuple #[.slice oo za.length oc, .agg #[.int .i64 0, .int .i64 a2]]) ?_ rfl ⟨⟨_, by rw [HA1.out]; rfl, SOwn.rowLow (HTZ.out.keep (below_drewN _ _ 1)) B4.out.size⟩, (Bw.out.trans s2).drew⟩
        simp [results, Tryz.results33, go_sem, s0, s1]
end Go.Proofs.YtgchgdkpipanjaaGreatDoor
