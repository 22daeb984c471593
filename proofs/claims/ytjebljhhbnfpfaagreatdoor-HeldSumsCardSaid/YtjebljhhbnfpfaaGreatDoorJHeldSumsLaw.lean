/- chandlerylaw2.HeldSums: the walk. -/
import Derived.Test.YtjebljhhbnfpfaaGreatDoorJHeldFacts
import Derived.Deep.CutRange
import Derived.BigQuiet
import Derived.Deep.QuietTactic
namespace Go.Proofs.YtjebljhhbnfpfaaGreatDoor
open Go Go.RowKit Go.Maps

theorem dropH_most (h : HeldB) (n : Int) : (dropH h n).2.most = h.most := by
  unfold dropH
  split <;> rfl
theorem put_same {h : HeldB} {l : List FileB} (hc : (treeEr l).code = 0) (hm : h.most ≠ 0) (hin : treeSum l ∈ h.sums) : putH h l = (⟨0, none⟩, treeSum l, h) := by
  unfold putH
  rw [if_neg (by rw [hc]; simp), if_neg hm, if_pos (ixOf_isSome.2 hin)]
theorem put_new {h : HeldB} {l : List FileB} (hc : (treeEr l).code = 0) (hm : h.most ≠ 0) (hin : treeSum l ∉ h.sums) : (putH h l).1 = ⟨0, none⟩ ∧ (putH h l).2.1 = treeSum l ∧ getL (putH h l).2.2.trees (treeSum l) = some l := by
  have e : putH h l = (⟨0, none⟩, treeSum l, { h with trees := h.trees.drop (if h.most ≤ h.trees.length then 1 else 0) ++ [(treeSum l, l)] }) := by
    unfold putH
    rw [if_neg (by rw [hc]; simp), if_neg hm, if_neg (fun hx => hin (ixOf_isSome.1 hx))]
  rw [e]
  refine ⟨rfl, rfl, ?_⟩
  show getL (h.trees.drop _ ++ [(treeSum l, l)]) (treeSum l) = some l
  rw [getL_app _ (fun hm2 => hin (by rw [List.map_drop] at hm2; exact List.mem_of_mem_drop hm2)), if_pos rfl]
theorem nodup_front {h : HeldB} (h0 : HeldOk h) (k : Nat) (hk : k < h.sums.length) : h.sums[k] ∉ h.sums.take k := fun hm => by
  obtain ⟨j, hj, e⟩ := List.getElem_of_mem hm
  rw [List.length_take] at hj
  rw [List.getElem_take] at e
  exact List.pairwise_iff_getElem.1 h0.nodup j k (by omega) hk (by omega) e

set_option maxHeartbeats 4000000 in
set_option maxRecDepth 100000 in
theorem heldSums_walk {E : Nat → Addr} {w : World} (hE : KEnv E w) (most : Int) (v : Value) (L : List HoldB) (hv : HRow w v L) :
    Calls Tryz.prog 4 #[.int .i64 most, v] w fun e w' => e = .returned (.bool true) ∧ Below w.heap.size w w' := by
  have HE := Lib.hid hE
  have HV := Lib.hid hv
  have C := Lib.hid (holds_any w hE)
  clear hE
  obtain ⟨⟨ao, cap, rfl, h1, h2, H3⟩, H5⟩ := hv
  have HM := Lib.hid H3
  have HX := Lib.hid H5
  clear H3 H5
  go_enter Tryz.func4, Tryz.ntmps4
  go_wp2_with fail
  refine C.out.mono ?_
  clear C
  rintro e w1 ⟨rfl, b1⟩
  have C := Lib.hid (longHoldings_any _ L w1 (HV.out.ext b1))
  go_wp2_with fail
  refine C.out.mono ?_
  clear C
  rintro e w2 ⟨⟨r, rfl, HN⟩, rfl⟩
  cases r with
  | true =>
    go_wp2_with fail
    go_ret
    exact ⟨rfl, b1⟩
  | false =>
    obtain ⟨h60, hsh⟩ := HN.out rfl
    have HSH := Lib.hid hsh
    have C := Lib.hid (heldNew_any most w1)
    clear HN hsh
    go_wp2_with fail
    refine C.out.mono ?_
    clear C
    rintro e w3 ⟨b, rfl, HI3, b3⟩
    have HI3 := Lib.hid HI3
    obtain ⟨B, hB⟩ : ∃ B, w1.heap.size = B := ⟨_, rfl⟩
    rw [hB] at HI3 b3
    have hBw : B ≤ w1.heap.size := Nat.le_of_eq hB.symm
    have hwB : w.heap.size ≤ B := by rw [← hB]; exact b1.size
    obtain ⟨M, hM⟩ : ∃ M, (newH most).most = M := ⟨_, rfl⟩
    have HMM : Hid (M ≤ 40 ∧ (0 ≤ most → (M : Int) ≤ most)) := by
      show _ ∧ _
      rw [← hM]
      unfold newH
      simp only
      constructor <;> omega
    clear hB
    go_wp2_with fail
    go_loopw [7] (fun i wr => ∃ (k : Nat) (hd : HeldB), k ≤ L.length ∧ i = .int .i64 k ∧ hd.most = M ∧ Hid (HeldIs wr B b hd) ∧ Below B w1 wr) (fun i _ => L.length - (intOf i).toNat)
    case atStart => exact ⟨0, newH most, Nat.zero_le _, rfl, hM, HI3, b3⟩
    case round =>
      obtain ⟨k, hd, hk, rfl, hmost, HI, hb⟩ := hrel
      have hbw : Below w.heap.size w wr := b1.trans (hb.mono hwB)
      have hBr : B ≤ wr.heap.size := Nat.le_trans hBw hb.size
      by_cases hlt : k < L.length
      · obtain ⟨b', off, rfl, hbl, hcell⟩ := HM.out k hlt
        obtain ⟨d0, d1, d2⟩ := hcell k hlt
        rw [← hbw.cell (p := ⟨b', off + k * 3, none⟩) hbl] at d0
        rw [← hbw.cell (p := ⟨b', off + k * 3 + 1, none⟩) hbl] at d1
        rw [← hbw.cell (p := ⟨b', off + k * 3 + 2, none⟩) hbl] at d2
        have HFA := Lib.hid (HX.out L[k] (List.getElem_mem hlt))
        have hss := HSH.out L[k] (List.getElem_mem hlt)
        clear hcell
        obtain ⟨x, hx⟩ : ∃ x, L[k] = x := ⟨_, rfl⟩
        rw [hx] at d0 d1 d2 HFA hss
        clear hx
        have HS : Hid (∀ f ∈ x.l, SmallF f) := fun f hf => by have := hss.2 f hf; exact ⟨by omega, by omega⟩
        have hln := hss.1
        clear hss
        go_upto_if 44 with fail
        go_cut [] from 34 to 176 (fun wx => ∃ hd' : HeldB, hd'.most = M ∧ Hid (HeldIs wx B b hd') ∧ Below B w1 wx)
        case first =>
          cases hp : x.put with
          | false =>
            rw [hp] at d0
            have C := Lib.hid (heldDrop_any (E := E) B b hd x.n HFA.out.2 wr HI.out hBr (HE.out.ext hbw).1.1)
            clear d1 hp
            go_wp2_with fail
            refine C.out.mono ?_
            clear C
            rintro e w4 ⟨rfl, HI4, K4⟩
            have hm4 : (dropH hd x.n).2.most = M := by rw [dropH_most]; exact hmost
            have HI4 := Lib.hid HI4
            go_wp2_with fail
            go_meet
            exact ⟨_, hm4, HI4, hb.trans K4.below⟩
          | true =>
            rw [hp] at d0
            clear hp d2
            obtain ⟨xo, xc, hxv, _⟩ := HFA.out.1.1
            have HVX : Hid (∀ w' : World, Below w.heap.size w w' → FArg w' x.v x.l) := fun w' hb => HFA.out.1.ext hb
            have hbl2 : b' < w.heap.size := hbl
            obtain ⟨fl, hfl⟩ : ∃ fl, x.l = fl := ⟨_, rfl⟩
            rw [hfl] at HVX HS hln hxv
            generalize x.v = xv at d1 HVX hxv
            subst hxv
            clear HFA hfl
            have D1 : Hid (∀ w' : World, Below wr.heap.size wr w' → w'.cell? ⟨b', off + k * 3 + 1, none⟩ = some (.slice xo fl.length xc)) := fun w' hb' => (hb'.cell (p := ⟨b', off + k * 3 + 1, none⟩) (World.block_lt_of_cell? _ _ d1)).trans d1
            have C := Lib.hid (packSum_any _ fl wr (HVX.out wr hbw).1 (by omega) HS.out (HE.out.ext hbw))
            go_wp2_with fail
            refine C.out.mono ?_
            clear C
            rintro e w2 ⟨⟨ev1, rfl, HER1⟩, hb2⟩
            rw [show ((sumL (packT fl) : Nat) : Int) = treeSum fl from rfl]
            have HI2 := Lib.hid (HI.out.below hb2)
            have hB2 : B ≤ w2.heap.size := Nat.le_trans hBr hb2.size
            have b2 := hbw.trans (hb2.mono hbw.size)
            have C := Lib.hid (heldGet_any (E := E) B b hd (treeSum fl) (treeSum_i64 _) w2 HI2.out (HE.out.ext b2).1.1)
            go_wp2_with fail
            refine C.out.mono ?_
            clear C
            rintro e w3 ⟨hget, hb3⟩
            have HI3' := Lib.hid (HI2.out.below hb3)
            have hB3 : B ≤ w3.heap.size := Nat.le_trans hB2 hb3.size
            have b3' := b2.trans (hb3.mono b2.size)
            have hr3 : Below wr.heap.size wr w3 := hb2.trans (hb3.mono hb2.size)
            have hb3b : Below B w1 w3 := hb.trans (hr3.mono hBr)
            have d13 := D1.out w3 hr3
            have HER3 := Lib.hid (HER1.out.ext hb3)
            have C := Lib.hid (heldPut_any (E := E) B b hd _ fl w3 (fun w' hk => HVX.out w' (b3'.trans (hk.below.mono hwB))) (by omega) HS.out HI3'.out hB3 (HE.out.ext b3'))
            have HPM : Hid ((putH hd fl).2.2.most = M) := by show _ = _; rw [putH_most]; exact hmost
            clear HI HI2 HER1 d1 hb2
            rcases hget with ⟨wl, wv, ho, rfl, HW⟩ | ⟨ho, rfl⟩
            · have HHO := Lib.hid ho
              have HWB : Hid (FOwn w3 B wv wl) := FOwn.low HW.out hB2
              clear ho HW
              go_wp2_with fail
              refine C.out.mono ?_
              clear C
              rintro e w4 ⟨⟨ev, rfl, HER⟩, HI4, K4, _⟩
              have HI4 := Lib.hid HI4
              have hm4 := HPM.out
              have hb4 := hb3b.trans K4.below
              by_cases hc : (treeEr fl).code = 0
              · by_cases hm0 : hd.most = 0
                · have e1 : putH hd fl = (⟨8, none⟩, 0, hd) := by unfold putH; rw [if_neg (by rw [hc]; simp), if_pos hm0]
                  rw [e1] at HER
                  obtain ⟨_, rfl⟩ := HER.base_inv
                  clear hm0 hc HWB HHO K4
                  go_wp2_with fail
                  go_meet
                  exact ⟨_, hm4, HI4, hb4⟩
                · have hin : treeSum fl ∈ hd.sums := List.mem_map.2 ⟨_, getL_some HHO.out, rfl⟩
                  have e1 := put_same hc hm0 hin
                  rw [e1] at HER HI4 hm4 ⊢
                  obtain rfl := HER.nil_inv
                  obtain rfl : ev1 = .nilIface := by
                    have q := HER3.out
                    rw [(treeEr_zero hc).1] at q
                    exact q.nil_inv
                  have b4 := b3'.trans (K4.below.mono hwB)
                  have C := Lib.hid (heldGet_any (E := E) B b hd (treeSum fl) (treeSum_i64 _) w4 HI4.out (HE.out.ext b4).1.1)
                  have HW4 := Lib.hid (show FOwn w4 B wv wl from K4.owns HWB.out heldRow_files)
                  have hB4 := below_size K4.below hB3
                  dsimp only
                  clear hc hm0 hin e1 HER HWB K4 HER3
                  go_wp2_with fail
                  refine C.out.mono ?_
                  clear C
                  rintro e w5 ⟨⟨gl, gv, ho, rfl, HG⟩ | ⟨ho, _⟩, hb5⟩
                  · obtain rfl : wl = gl := by rw [HHO.out] at ho; exact Option.some.inj ho
                    have HI5 := Lib.hid (HI4.out.below hb5)
                    have hb5b := hb4.trans (hb5.mono hB4)
                    have hlw : wl.length ≤ 1000000 := by have := (right_len (held_right HI4.out.1 ho).1).1; omega
                    have hnn : (treeSum fl != treeSum fl) = false := by simp
                    have C := Lib.hid (treeSame_same (FOwn.arg HG.out).1 (FOwn.arg (FOwn.ext HW4.out hb5)).1 hlw)
                    clear ho HG HW4 HI4 hb4 HHO
                    go_wp2_with fail
                    refine C.out.mono ?_
                    clear C
                    rintro e w6 ⟨rfl, hb6⟩
                    have HI6 := Lib.hid (HI5.out.below hb6)
                    have hb6b := hb5b.trans (hb6.mono (below_size (hb5.mono hB4) hB4))
                    go_wp2_with fail
                    go_meet
                    exact ⟨_, hm4, HI6, hb6b⟩
                  · rw [HHO.out] at ho; cases ho
              · have e1 : putH hd fl = (treeEr fl, 0, hd) := by unfold putH; rw [if_pos hc]
                rw [e1] at HER
                obtain ⟨te, xq, rfl⟩ := HER.some_inv hc
                clear hc HWB HHO K4
                go_wp2_with fail
                go_meet
                exact ⟨_, hm4, HI4, hb4⟩
            · have HHO := Lib.hid ho
              clear ho
              go_wp2_with fail
              refine C.out.mono ?_
              clear C
              rintro e w4 ⟨⟨ev, rfl, HER⟩, HI4, K4, _⟩
              have HI4 := Lib.hid HI4
              have hm4 := HPM.out
              have hb4 := hb3b.trans K4.below
              by_cases hc : (treeEr fl).code = 0
              · by_cases hm0 : hd.most = 0
                · have e1 : putH hd fl = (⟨8, none⟩, 0, hd) := by unfold putH; rw [if_neg (by rw [hc]; simp), if_pos hm0]
                  rw [e1] at HER
                  obtain ⟨_, rfl⟩ := HER.base_inv
                  clear hm0 hc HHO K4
                  go_wp2_with fail
                  go_meet
                  exact ⟨_, hm4, HI4, hb4⟩
                · have hin : treeSum fl ∉ hd.sums := fun hm2 => by
                    obtain ⟨l2, hl2⟩ := getL_mem hm2
                    rw [HHO.out] at hl2; cases hl2
                  obtain ⟨e1, e2, e3⟩ := put_new hc hm0 hin
                  rw [e1] at HER
                  rw [e2]
                  obtain rfl := HER.nil_inv
                  obtain rfl : ev1 = .nilIface := by
                    have q := HER3.out
                    rw [(treeEr_zero hc).1] at q
                    exact q.nil_inv
                  have b4 := b3'.trans (K4.below.mono hwB)
                  have hB4 := below_size K4.below hB3
                  have C := heldGet_any (E := E) B b (putH hd fl).2.2 (treeSum fl) (treeSum_i64 _) w4 HI4.out (HE.out.ext b4).1.1
                  rw [e3] at C
                  have C := Lib.hid C
                  have d14 : w4.cell? ⟨b', off + k * 3 + 1, none⟩ = some (.slice xo fl.length xc) := ((K4.below.mono hwB).cell (p := ⟨b', off + k * 3 + 1, none⟩) hbl2).trans d13
                  clear hc hm0 hin e1 e2 e3 HER HER3 K4
                  go_wp2_with fail
                  refine C.out.mono ?_
                  clear C
                  rintro e w5 ⟨⟨gl, gv, ho, rfl, HG⟩ | ⟨ho, _⟩, hb5⟩
                  · obtain rfl : fl = gl := Option.some.inj ho
                    have HI5 := Lib.hid (HI4.out.below hb5)
                    have hb5b := hb4.trans (hb5.mono hB4)
                    have b5 := b4.trans (hb5.mono b4.size)
                    have hnn : (treeSum fl != treeSum fl) = false := by simp
                    have d15 := (hb5.cell (p := ⟨b', off + k * 3 + 1, none⟩) (World.block_lt_of_cell? _ _ d14)).trans d14
                    have C := Lib.hid (treeSame_same (FOwn.arg HG.out).1 (HVX.out w5 b5).1 (by omega))
                    clear ho HG HI4 hb4 HHO
                    go_wp2_with fail
                    refine C.out.mono ?_
                    clear C
                    rintro e w6 ⟨rfl, hb6⟩
                    have HI6 := Lib.hid (HI5.out.below hb6)
                    have hb6b := hb5b.trans (hb6.mono (below_size (hb5.mono hB4) hB4))
                    go_wp2_with fail
                    go_meet
                    exact ⟨_, hm4, HI6, hb6b⟩
                  · cases ho
              · have e1 : putH hd fl = (treeEr fl, 0, hd) := by unfold putH; rw [if_pos hc]
                rw [e1] at HER
                obtain ⟨te, xq, rfl⟩ := HER.some_inv hc
                clear hc HHO K4
                go_wp2_with fail
                go_meet
                exact ⟨_, hm4, HI4, hb4⟩
        case rest =>
          obtain ⟨hd', hm', HI', hb'⟩ := hcut
          have bw' : Below w.heap.size w wc := b1.trans (hb'.mono hwB)
          have hBc : B ≤ wc.heap.size := Nat.le_trans hBw hb'.size
          have C := Lib.hid (heldSums_any B b hd' wc HI'.out)
          clear HI d0 d1 d2 HFA HS hln hmost
          go_wp2_with fail
          refine C.out.mono ?_
          clear C
          rintro e ws ⟨⟨s, rfl, HSI⟩, hbs⟩
          have HIs := Lib.hid (HI'.out.below hbs)
          have hBs : B ≤ ws.heap.size := Nat.le_trans hBc hbs.size
          have bs := bw'.trans (hbs.mono bw'.size)
          have hbsb := hb'.trans (hbs.mono hBc)
          have h0 := HI'.out.1
          obtain ⟨n, hnl⟩ : ∃ n, hd'.sums.length = n := ⟨_, rfl⟩
          have hnM : n ≤ M := by rw [← hnl, sums_len, ← hm']; exact h0.len
          have HM2 := HMM.out
          have HNL := Lib.hid hnl
          have H0 := Lib.hid h0
          obtain ⟨so, sc, hsv⟩ := IOwn.shape HSI.out
          rw [hnl] at hsv
          subst hsv
          have g40 : decide ((40 : Int) < (n : Int)) = false := decide_eq_false (by omega)
          have gm : (decide ((0 : Int) ≤ most) = true ∧ decide (most < (n : Int)) = false) ∨ decide ((0 : Int) ≤ most) = false := by
            by_cases h : 0 ≤ most
            · exact .inl ⟨decide_eq_true h, decide_eq_false (by have := HM2.2 h; omega)⟩
            · exact .inr (decide_eq_false h)
          have hn40 : n ≤ 40 := by omega
          clear hnl h0 HI' HM2 hbs
          rcases gm with ⟨g1, g2⟩ | g1
          all_goals
            go_wp2_with fail
            go_loopw [17] (fun j wq => ∃ q : Nat, q ≤ n ∧ j = .int .i64 q ∧ Below ws.heap.size ws wq) (fun j _ => n - (intOf j).toNat)
            case atStart => exact ⟨0, Nat.zero_le _, rfl, Below.refl _ _⟩
            case round =>
              obtain ⟨q, hq, rfl, hbq⟩ := hrel
              have bq := bs.trans (hbq.mono bs.size)
              have hBq : B ≤ wr.heap.size := Nat.le_trans hBs hbq.size
              have HIq := Lib.hid (HIs.out.below hbq)
              have HSq := Lib.hid (IOwn.ext HSI.out hbq)
              by_cases hqn : q < n
              · have hqs : q < hd'.sums.length := by rw [HNL.out]; exact hqn
                obtain ⟨sb, sf, rfl⟩ := iown_open HSq.out (by omega)
                have qj := iown_at HSq.out q hqs
                have HNF := Lib.hid (nodup_front H0.out q hqs)
                have HI64 := Lib.hid (mem_i64 H0.out (List.getElem_mem hqs))
                obtain ⟨z, hz⟩ : ∃ z, hd'.sums[q]'hqs = z := ⟨_, rfl⟩
                rw [hz] at qj HNF HI64
                have HZM : Hid (z ∈ hd'.sums) := by show _ ∈ _; rw [← hz]; exact List.getElem_mem _
                have HQS := Lib.hid hqs
                clear hz hqs
                have C := Lib.hid (heldGet_any (E := E) B b hd' z HI64.out wr HIq.out (HE.out.ext bq).1.1)
                go_wp2_with fail
                refine C.out.mono ?_
                clear C
                rintro e w5 ⟨⟨gl, gv, ho, rfl, HG⟩ | ⟨ho, _⟩, hb5⟩
                · obtain ⟨hr1, hr2⟩ := held_right H0.out ho
                  have b5 := bq.trans (hb5.mono bq.size)
                  have C := Lib.hid (packSum_any gv gl w5 (FOwn.arg HG.out).1 (right_len hr1).1 (right_len hr1).2 (HE.out.ext b5))
                  have HR1 := Lib.hid hr1
                  have HR2 := Lib.hid hr2
                  obtain ⟨go, gc, rfl⟩ := FOwn.shape HG.out
                  clear ho HG hr1 hr2
                  go_wp2_with fail
                  refine C.out.mono ?_
                  clear C
                  rintro e w6 ⟨⟨ev, rfl, HER⟩, hb6⟩
                  obtain rfl : ev = .nilIface := by
                    have q2 := HER.out
                    rw [(treeEr_zero HR1.out).1] at q2
                    exact q2.nil_inv
                  rw [show ((sumL (packT gl) : Nat) : Int) = z from HR2.out.symm]
                  have hb56 : Below wr.heap.size wr w6 := hb5.trans (hb6.mono hb5.size)
                  have q6 := (hb56.cell (p := ⟨sb, sf + q, none⟩) (World.block_lt_of_cell? _ _ qj)).trans qj
                  have HS6 := Lib.hid (IOwn.ext HSq.out hb56)
                  have HQ1 : Hid (∀ n', Calls Tryz.prog 19 #[.int .i64 z, .slice (some ⟨sb, sf, none⟩) q sc] (w6.drewN n') fun e w' => e = .returned (.bool false) ∧ w' = w6.drewN n') := fun n' =>
                    inInts_not z (row_front (IOwn.row (IOwn.ext HS6.out (below_drewN _ _ n'))) q HQS.out) HNF.out (by rw [List.length_take]; omega)
                  have hzz : (z != z) = false := by simp
                  have hbq6 := hbq.trans (hb56.mono hbq.size)
                  have hqsc : q ≤ sc := by have := iown_cap HS6.out; omega
                  clear HER HR1 HR2 qj HSq HIq hb5 hb6 HS6 HNF
                  go_wp2_with fail
                  go_quiet (first | exact Calls.quiet_of_same (HQ1.out _))
                  go_wp2_with fail
                  go_roundw
                  case rel => exact ⟨q + 1, by omega, by go_num, hbq6.trans ((below_drewN _ _ _).mono hbq6.size)⟩
                  case measure => simp [intOf]; omega
                · obtain ⟨l2, hl2⟩ := getL_mem HZM.out
                  rw [hl2] at ho; cases ho
              · obtain rfl : n = q := by omega
                have hbe := hbsb.trans (hbq.mono hBs)
                clear HSq
                go_wp2_with fail
                go_roundw
                case rel => exact ⟨k + 1, hd', by omega, by go_num, hm', HIq, hbe⟩
                case measure => simp [intOf]; omega
      · go_wp2_with fail
        go_ret
        exact ⟨rfl, hbw⟩
end Go.Proofs.YtjebljhhbnfpfaaGreatDoor
