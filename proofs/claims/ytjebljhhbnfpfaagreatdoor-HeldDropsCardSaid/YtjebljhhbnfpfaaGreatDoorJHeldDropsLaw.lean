/- chandlerylaw2.HeldDrops: the walk. -/
import Derived.Test.YtjebljhhbnfpfaaGreatDoorJHeldFacts
namespace Go.Proofs.YtjebljhhbnfpfaaGreatDoor
open Go Go.RowKit Go.Maps

theorem iown_at {w : World} {base b off n cap : Nat} {zs : List Int} (h : IOwn w base (.slice (some ⟨b, off, none⟩) n cap) zs) (k : Nat) (hk : k < zs.length) : w.cell? ⟨b, off + k, none⟩ = some (.int .i64 zs[k]) := by
  rcases (IOwn.row h).one with ⟨e, _⟩ | ⟨b2, off2, cap2, e, h1, h2, h3, h4⟩
  · cases e
  · injection e with q1 _ _
    injection q1 with q1
    injection q1 with q1 q2 _
    subst q1; subst q2
    exact h4 k hk
theorem iown_parts {w : World} {base : Nat} {v : Value} {zs : List Int} (h : IOwn w base v zs) (hz : 0 < zs.length) : ∃ b off cap, v = .slice (some ⟨b, off, none⟩) zs.length cap ∧ zs.length ≤ cap ∧ cap ≤ maxLen := by
  rcases (IOwn.row h).one with ⟨_, e⟩ | ⟨b2, off2, cap2, e, h1, h2, h3, h4⟩
  · rw [e] at hz; exact absurd hz (Nat.lt_irrefl _)
  · exact ⟨b2, off2, cap2, e, h1, h2⟩
/-- Part of a row, as an append takes it. -/
theorem iown_news {w : World} {base b off n cap : Nat} {zs : List Int} (h : IOwn w base (.slice (some ⟨b, off, none⟩) n cap) zs) (i m : Nat) (hi : i + m ≤ zs.length) (o : Nat) (ho : o = off + i) :
    ∀ j u, (((zs.drop i).take m).map (Value.int .i64))[j]? = some u → w.cell? ((⟨b, o, none⟩ : Addr).add j) = some u := by
  intro j u hj
  subst ho
  have hjl : j < m := by
    have := (List.getElem?_eq_some_iff.1 hj).1
    rw [List.length_map, List.length_take, List.length_drop] at this
    omega
  rw [Addr.add_lit]
  have := iown_at h (i + j) (by omega)
  rw [show off + i + j = off + (i + j) by omega, this]
  rw [List.getElem?_map, List.getElem?_take_of_lt hjl, List.getElem?_drop, List.getElem?_eq_getElem (by omega)] at hj
  exact hj
theorem iown_news2 {w : World} {base b off n cap : Nat} {zs : List Int} (h : IOwn w base (.slice (some ⟨b, off, none⟩) n cap) zs) (i m : Nat) (hi : i + m ≤ zs.length) (o : Nat) (ho : m = 0 ∨ o = off + i) :
    ∀ j u, (((zs.drop i).take m).map (Value.int .i64))[j]? = some u → w.cell? ((⟨b, o, none⟩ : Addr).add j) = some u := by
  rcases ho with rfl | ho
  · intro j u hj; rw [List.take_zero] at hj; cases hj
  · exact iown_news h i m hi o ho
set_option maxRecDepth 100000 in
theorem ints_from (b off n sc k : Nat) (hk : k ≤ n) (hs : n ≤ sc) : ∃ o c, (∀ W : World, (Instr.slice 35 (.slice (some ⟨b, off, none⟩) n sc) (some (.int .i64 (k : Int))) none none).run Tryz.prog W = .ok (.slice (some ⟨b, o, none⟩) (n - k) c) W) ∧ (n - k = 0 ∨ o = off + k) := by
  by_cases h : sc = k
  · refine ⟨off, 0, fun W => ?_, .inl (by omega)⟩
    rw [run_slice_l W 35 (some ⟨b, off, none⟩) n sc (by kernel_rfl) .i64 (k : Int) (by omega) (by omega)]
    simp [sliced, go_sem, h]
  · refine ⟨off + k, sc - k, fun W => ?_, .inr rfl⟩
    rw [run_slice_l W 35 (some ⟨b, off, none⟩) n sc (by kernel_rfl) .i64 (k : Int) (by omega) (by omega)]
    simp [sliced, go_sem, h]
theorem iown_open {w : World} {base n cap : Nat} {ao : Option Addr} {zs : List Int} (h : IOwn w base (.slice ao n cap) zs) (hz : 0 < zs.length) : ∃ b off, ao = some ⟨b, off, none⟩ := by
  obtain ⟨b, off, c, e, _⟩ := iown_parts h hz
  injection e with e
  exact ⟨b, off, e⟩
/-- A row of numbers grows that is not the order. -/
theorem held_grown {w w2 : World} {B b : Nat} {h : HeldB} {row : Option Nat} (hi : HeldIs w B b h) (hg : w.grownBy w2 row) (hrow : ∀ g, row = some g → ∃ cs, w.heap[g]? = some (.cells cs 3 (0, 0)))
    (hne : ∀ ov', w.cell? ⟨b, 1, none⟩ = some ov' → ov'.ownBlock = none ∨ ov'.ownBlock ≠ row) : HeldIs w2 B b h := by
  obtain ⟨h0, ov, mb, f, hA⟩ := hi
  obtain ⟨es, c, he⟩ := hA.map.isMap
  have other : ∀ (k : Nat) (o : Obj), w.heap[k]? = some o → (∀ cs, o ≠ .cells cs 3 (0, 0)) → w2.heap[k]? = w.heap[k]? := fun k o hk hn => hg.block k (Array.getElem?_eq_some_iff.1 hk).1 (fun e => by
    obtain ⟨cs, hc⟩ := hrow k e.symm
    rw [hk] at hc
    exact hn cs (Option.some.inj hc))
  refine ⟨h0, ov, mb, f, hA.hb, hA.hm, ?_, ?_, hA.map.keep (other mb _ he (fun cs e => by cases e)), fun i => ?_⟩
  · rw [other b _ hA.blk (fun cs e => by injection e with _ e _; exact absurd e (by decide))]; exact hA.blk
  · exact World.ownsRow.kept hA.order hg (hne ov (held_ready hA.blk).2.1)
  · rcases hA.vals i with hv | ⟨l, x, h1, h2, h3⟩
    · exact .inl hv
    · refine .inr ⟨l, x, h1, h2, World.ownsRow.kept h3 hg ?_⟩
      rcases h3.2 with ⟨rfl, _⟩ | ⟨g, cap, cur, rfl, hb, hgb, _⟩
      · exact .inl rfl
      · refine .inr (fun e => ?_)
        obtain ⟨cs, hc⟩ := hrow g e.symm
        rw [hgb] at hc
        injection hc with hc
        injection hc with _ hc _
        exact absurd hc (by decide)
theorem iown_row {w : World} {base : Nat} {v : Value} {zs : List Int} (h : IOwn w base v zs) : ∀ g, v.ownBlock = some g → ∃ cs, w.heap[g]? = some (.cells cs 3 (0, 0)) := by
  intro g hg
  rcases h.2 with ⟨rfl, _⟩ | ⟨g', cap, cur, rfl, hb, hgb, _⟩
  · cases hg
  · obtain rfl : g' = g := Option.some.inj hg
    exact ⟨_, hgb⟩
/-- The order is another row than one made later. -/
theorem order_ne {w7 w12 w13 : World} {B b : Nat} {h : HeldB} {v : Value} {zs : List Int} (hi : HeldIs w7 B b h) (h712 : Below w7.heap.size w7 w12) (hl : IOwn w12 w7.heap.size v zs) (hf : OrderFresh w12 w13 b) :
    ∀ ov', w13.cell? ⟨b, 1, none⟩ = some ov' → ov'.ownBlock = none ∨ ov'.ownBlock ≠ v.ownBlock := by
  intro ov' h'
  cases ho : ov'.ownBlock with
  | none => exact .inl rfl
  | some g =>
    refine .inr (fun e => ?_)
    obtain ⟨l1, l2⟩ := World.ownsRow.lt hl g e.symm
    rcases hf ov' h' with h2 | h2
    · have hlt := HeldIs.lt hi
      rw [h712.cell (p := ⟨b, 1, none⟩) hlt] at h2
      obtain ⟨_, ov, mb, f, hA⟩ := hi
      have h3 := (held_ready hA.blk).2.1
      rw [h3] at h2
      obtain rfl := Option.some.inj h2
      have := (World.ownsRow.lt hA.order g ho).2
      omega
    · have := h2 g ho
      omega
theorem mem_i64 {h : HeldB} (h0 : HeldOk h) {n : Int} (hm : n ∈ h.sums) : I64 n := by
  obtain ⟨p, hp, rfl⟩ := List.mem_map.1 hm
  rw [(h0.right p hp).2]; exact treeSum_i64 _
theorem news_one (l : List Int) : ∀ u ∈ l.map (Value.int .i64), u.oneCell' = true := fun u hu => by
  obtain ⟨x, _, rfl⟩ := List.mem_map.1 hu
  rfl

set_option maxHeartbeats 4000000 in
set_option maxRecDepth 100000 in
theorem heldDrops_walk {E : Nat → Addr} {w : World} (hE : KEnv E w) (v : Value) (L : List HoldB) (hv : HRow w v L) (at' : Int) (hat : I64 at') :
    Calls Tryz.prog 3 #[v, .int .i64 at'] w fun e w' => e = .returned (.bool true) ∧ Below w.heap.size w w' := by
  obtain ⟨i0, hi0, hz0, hz1, hz2⟩ := info_parts Tryz.infoInt
  have HE := Lib.hid hE
  have HV := Lib.hid hv
  have C := Lib.hid (holds_any w hE)
  clear hE
  obtain ⟨⟨ao, cap, rfl, h1, h2, H3⟩, H5⟩ := hv
  have HM := Lib.hid H3
  have HX := Lib.hid H5
  clear H3 H5
  go_enter Tryz.func3, Tryz.ntmps3
  go_wp2_with fail
  refine C.out.mono ?_
  clear C
  rintro e w1 ⟨rfl, b1⟩
  have C := Lib.hid (longHoldings_any _ L w1 (HV.out.ext b1))
  go_wp2_with fail
  refine C.out.mono ?_
  clear C
  rintro e w2 ⟨⟨r, rfl, HN⟩, rfl⟩
  cases r with
  | true =>
    go_wp2_with fail
    go_ret
    exact ⟨rfl, b1⟩
  | false =>
    by_cases hneg : at' < 0
    · have g0 : decide (at' < 0) = true := decide_eq_true hneg
      go_wp2_with fail
      go_ret
      exact ⟨rfl, b1⟩
    · obtain ⟨k0, rfl⟩ : ∃ k : Nat, at' = k := ⟨at'.toNat, by omega⟩
      have g0 : decide ((k0 : Int) < 0) = false := decide_eq_false (by omega)
      obtain ⟨h60, hsh⟩ := HN.out rfl
      have HSH := Lib.hid hsh
      have C := Lib.hid (heldNew_any 40 w1)
      clear HN hsh hneg
      go_wp2_with fail
      refine C.out.mono ?_
      clear C
      rintro e w3 ⟨b, rfl, HI3, b3⟩
      have HI3 := Lib.hid HI3
      obtain ⟨B, hB⟩ : ∃ B, w1.heap.size = B := ⟨_, rfl⟩
      rw [hB] at HI3 b3
      have hBw : B ≤ w1.heap.size := Nat.le_of_eq hB.symm
      have hwB : w.heap.size ≤ B := by rw [← hB]; exact b1.size
      clear hB
      go_wp2_with fail
      go_loopw [7] (fun i wr => ∃ (k : Nat) (hd : HeldB), k ≤ L.length ∧ i = .int .i64 k ∧ hd.most = 40 ∧ Hid (HeldIs wr B b hd) ∧ Below B w1 wr) (fun i _ => L.length - (intOf i).toNat)
      case atStart => exact ⟨0, newH 40, Nat.zero_le _, rfl, rfl, HI3, b3⟩
      case round =>
        obtain ⟨k, hd, hk, rfl, hmost, HI, hb⟩ := hrel
        have hbw : Below w.heap.size w wr := b1.trans (hb.mono hwB)
        have hBr : B ≤ wr.heap.size := Nat.le_trans hBw hb.size
        by_cases hlt : k < L.length
        · obtain ⟨b', off, rfl, hbl, hcell⟩ := HM.out k hlt
          obtain ⟨d0, d1, _⟩ := hcell k hlt
          rw [← hbw.cell (p := ⟨b', off + k * 3, none⟩) hbl] at d0
          rw [← hbw.cell (p := ⟨b', off + k * 3 + 1, none⟩) hbl] at d1
          have hfa := (HX.out L[k] (List.getElem_mem hlt)).1
          have hss := HSH.out L[k] (List.getElem_mem hlt)
          clear hcell
          obtain ⟨x, hx⟩ : ∃ x, L[k] = x := ⟨_, rfl⟩
          rw [hx] at d0 d1 hfa hss
          clear hx
          have HS : Hid (∀ f ∈ x.l, SmallF f) := fun f hf => by have := hss.2 f hf; exact ⟨by omega, by omega⟩
          have hln := hss.1
          clear hss
          cases hp : x.put with
          | false =>
            rw [hp] at d0
            clear d1 hfa HS hp
            go_wp2_with fail
            go_roundw
            case rel => exact ⟨k + 1, hd, by omega, by go_num, hmost, HI, hb⟩
            case measure => simp [intOf]; omega
          | true =>
            rw [hp] at d0
            have C := Lib.hid (ownFiles_any x.v x.l wr (by omega) (hfa.ext hbw))
            obtain ⟨xo, xc, hxv, _⟩ := hfa.1
            clear hfa hp
            generalize x.v = xv at C d1 hxv
            subst hxv
            go_wp2_with fail
            refine C.out.mono ?_
            clear C
            rintro e w4 ⟨⟨ov, rfl, HO⟩, hb4⟩
            have C := Lib.hid (heldPut_any (E := E) B b hd ov x.l w4 (fun w' hk => FOwn.arg (hk.owns HO.out heldRow_files)) (by omega) HS.out (HI.out.below hb4) (Nat.le_trans hBr hb4.size) (HE.out.ext (hbw.trans (hb4.mono hbw.size))))
            go_wp2_with fail
            refine C.out.mono ?_
            clear C
            rintro e w5 ⟨⟨ev, rfl, _⟩, HI5, K5, _⟩
            have HI5 := Lib.hid HI5
            have hm5 : (putH hd x.l).2.2.most = 40 := by rw [putH_most]; exact hmost
            have hb5 : Below B w1 w5 := (hb.trans (hb4.mono hBr)).trans K5.below
            clear K5 HO HI HS
            go_wp2_with fail
            go_roundw
            case rel => exact ⟨k + 1, _, by omega, by go_num, hm5, HI5, hb5⟩
            case measure => simp [intOf]; omega
        · have C := Lib.hid (heldSums_any B b hd wr HI.out)
          clear HM HX HSH
          go_wp2_with fail
          refine C.out.mono ?_
          clear C
          rintro e w4 ⟨⟨s, rfl, HS⟩, hb4⟩
          have HI4 := Lib.hid (HI.out.below hb4)
          have hB4 : B ≤ w4.heap.size := Nat.le_trans hBr hb4.size
          have b4 : Below w.heap.size w w4 := hbw.trans (hb4.mono hbw.size)
          have H0 := Lib.hid HI.out.1
          have hlen := HI.out.1.len
          obtain ⟨n, hnl⟩ : ∃ n, hd.sums.length = n := ⟨_, rfl⟩
          have hnt : hd.trees.length = n := by rw [← sums_len]; exact hnl
          rw [hnt] at hlen
          have HSL := Lib.hid hnl
          have HTL := Lib.hid hnt
          have HS4 : Hid (IOwn w4 B s hd.sums) := IOwn.low HS.out hBr
          clear HI HS hb4 hnt
          by_cases hkN : k0 < n
          · have hks : k0 < hd.sums.length := by omega
            have hkn : k0 < hd.trees.length := by rw [HTL.out]; exact hkN
            obtain ⟨sb, so, sc, hsv, hsc, hscm⟩ := iown_parts HS4.out (by omega)
            rw [hnl] at hsv hsc
            subst hsv
            have hsn := sums_at hd k0 hkn hks
            have hge : decide ((n : Int) ≤ (k0 : Int)) = false := decide_eq_false (by omega)
            have hks := Lib.hid hks
            have hkn := Lib.hid hkn
            clear hnl
            obtain ⟨n0, hn0⟩ : ∃ n, (hd.trees[k0]'hkn.out).1 = n := ⟨_, rfl⟩
            have HN0 := Lib.hid hn0
            have hI64 : I64 n0 := by rw [← hn0, (H0.out.right _ (List.getElem_mem hkn.out)).2]; exact treeSum_i64 _
            rw [hn0] at hsn
            have q4 := iown_at HS4.out k0 hks.out
            rw [hsn] at q4
            have C := Lib.hid (heldGet_any (E := E) B b hd n0 hI64 w4 HI4.out (HE.out.ext b4).1.1)
            have HG : Hid (getL hd.trees n0 = some (hd.trees[k0]'hkn.out).2) := by show _ = _; rw [← hn0]; exact getL_at hkn.out H0.out.nodup
            clear hn0
            go_wp2_with fail
            refine C.out.mono ?_
            clear C
            rintro e w5 ⟨⟨tl, tv, ho, rfl, HT⟩ | ⟨ho, _⟩, hb5⟩
            · have htl : Hid (tl = (hd.trees[k0]'hkn.out).2) := by rw [HG.out] at ho; exact (Option.some.inj ho).symm
              have K5 : Keeps HeldRow B w4 w5 := Keeps.of hb5 hB4
              have HS5 := Lib.hid (show IOwn w5 B _ _ from K5.owns HS4.out heldRow_ints)
              have q5 := iown_at HS5.out k0 hks.out
              rw [hsn] at q5
              have HT5 : Hid (FOwn w5 B tv tl) := FOwn.low HT.out hB4
              have b5 := b4.trans (hb5.mono b4.size)
              have hB5 := below_size K5.below hB4
              have C := Lib.hid (heldDrop_any (E := E) B b hd n0 hI64 w5 (HI4.out.below hb5) hB5 (HE.out.ext b5).1.1)
              rw [← HN0.out, drop_at hd H0.out k0 hkn.out, HN0.out] at C
              clear ho HT HS4 HI4 q4 HG
              go_wp2_with fail
              refine C.out.mono ?_
              clear C
              rintro e w6 ⟨rfl, HI6, K6⟩
              have HI6 := Lib.hid HI6
              have HS6 := Lib.hid (show IOwn w6 B _ _ from K6.owns HS5.out heldRow_ints)
              have q6 := iown_at HS6.out k0 hks.out
              rw [hsn] at q6
              have HT6 := Lib.hid (show FOwn w6 B _ _ from K6.owns HT5.out heldRow_files)
              have b6 := b5.trans (K6.below.mono hwB)
              have hB6 := below_size K6.below hB5
              have C := Lib.hid (heldDrop_any (E := E) B b (lessH hd k0) n0 hI64 w6 HI6.out hB6 (HE.out.ext b6).1.1)
              rw [← HN0.out, less_drop hd H0.out k0 hkn.out, HN0.out] at C
              rw [show errV E (0, lessH hd k0).1 = .nilIface from rfl]
              clear HS5 HT5 q5 K6
              go_wp2_with fail
              refine C.out.mono ?_
              clear C
              rintro e w7 ⟨rfl, HI7, K7⟩
              have HI7 := Lib.hid HI7
              have HS7 := Lib.hid (show IOwn w7 B _ _ from K7.owns HS6.out heldRow_ints)
              have HT7 := Lib.hid (show FOwn w7 B _ _ from K7.owns HT6.out heldRow_files)
              have b7 := b6.trans (K7.below.mono hwB)
              have hB7 := below_size K7.below hB6
              rw [show errV E (6, lessH hd k0).1 = sentV E 5 from rfl]
              clear HS6 HT6 q6 K7 HI6
              have hkb : k0 < 100 := by have := H0.out.few; omega
              have HI8 : Hid (HeldIs w7 B b (lessH hd k0)) := HI7.out
              obtain ⟨so2, sc2, hsl, hso2⟩ := ints_from sb so n sc (k0 + 1) (by omega) hsc
              have hsl2 : ∀ W : World, (Instr.slice 35 (.slice (some ⟨sb, so, none⟩) n sc) (some (.int .i64 ((k0 : Int) + 1))) none none).run Tryz.prog W = .ok (.slice (some ⟨sb, so2, none⟩) (n - (k0 + 1)) sc2) W := hsl
              have m1 : 0 + k0 ≤ maxLen := by rw [maxLen_eq]; omega
              have m2 : (0 + k0) * 8 ≤ 140737488355328 := by omega
              have nl1 : (((hd.sums.drop 0).take k0).map (Value.int .i64)).length = k0 * 1 := by rw [List.length_map, List.length_take, List.length_drop, HSL.out]; omega
              have nc1 := iown_news HS7.out 0 k0 (by rw [HSL.out]; omega) so (by omega)
              clear HI7 hsl
              skip
              go_wp2_with (at_builtin; refine wpList_append_own _ rfl _ _ 35 rfl w7.heap.size 3 i0 (.int .i64 0) 1 8 Tryz.underlying35 hi0 hz0 hz1 hz2 rfl (by decide) (.slice none 0 0) 0 [] rfl (World.ownsRow_nil _ _ _ _) ⟨sb, so, none⟩ k0 sc (((hd.sums.drop 0).take k0).map (Value.int .i64)) rfl nl1 nc1 (news_one _) m1 m2 (Nat.le_refl _) ?_)
              intro v8 w8 hown hgrow _
              have h8 : Below w7.heap.size w7 w8 := (Below.refl _ _).grown hgrow (Nat.le_refl _) (fun r e => by cases e)
              have HL8 : Hid (IOwn w8 w7.heap.size v8 (hd.sums.take k0)) := by
                show World.ownsRow _ _ _ _ _ _ _
                rw [List.length_take, HSL.out, Nat.min_eq_left (by omega), List.map_take]
                simpa using hown
              have HS8 := Lib.hid (IOwn.ext HS7.out h8)
              have m3 : k0 + (n - (k0 + 1)) ≤ maxLen := by rw [maxLen_eq]; omega
              have m4 : (k0 + (n - (k0 + 1))) * 8 ≤ 140737488355328 := by omega
              have nl2 : (((hd.sums.drop (k0 + 1)).take (n - (k0 + 1))).map (Value.int .i64)).length = (n - (k0 + 1)) * 1 := by rw [List.length_map, List.length_take, List.length_drop, HSL.out]; omega
              have nc2 := iown_news2 HS8.out (k0 + 1) (n - (k0 + 1)) (by rw [HSL.out]; omega) so2 hso2
              have hl8 : (hd.sums.take k0).length = k0 := by rw [List.length_take, HSL.out]; omega
              have hown8 : w8.ownsRow w7.heap.size 3 1 v8 k0 ((hd.sums.take k0).map (Value.int .i64)) := by
                have q := HL8.out
                unfold IOwn at q
                rw [hl8] at q
                exact q
              have HO8 := Lib.hid hown8
              clear hown hgrow m1 m2 nl1 nc1 hown8 hl8
              go_wp2_with (at_builtin; refine wpList_append_own _ rfl _ _ 35 rfl w7.heap.size 3 i0 (.int .i64 0) 1 8 Tryz.underlying35 hi0 hz0 hz1 hz2 rfl (by decide) v8 k0 _ rfl HO8.out ⟨sb, so2, none⟩ (n - (k0 + 1)) sc2 (((hd.sums.drop (k0 + 1)).take (n - (k0 + 1))).map (Value.int .i64)) rfl nl2 nc2 (news_one _) m3 m4 h8.size ?_)
              intro v9 w9 hown hgrow _
              have h9 : Below w7.heap.size w7 w9 := h8.grown hgrow h8.size (fun r e => (World.ownsRow.lt HL8.out r e).1)
              obtain ⟨n9, hn9⟩ : ∃ m, (lessH hd k0).sums.length = m := ⟨_, rfl⟩
              have HN9 : Hid (n9 = n - 1) := by show _ = _; rw [← hn9, lessH_sums, List.length_eraseIdx, if_pos hks.out, HSL.out]
              have HL9 : Hid (IOwn w9 w7.heap.size v9 (lessH hd k0).sums) := by
                show World.ownsRow _ _ _ _ _ _ _
                rw [hn9, HN9.out, lessH_sums, List.eraseIdx_eq_take_drop_succ, List.map_append, List.map_take, List.map_drop, show n - 1 = k0 + (n - (k0 + 1)) by omega]
                have e2 : ((hd.sums.map (Value.int .i64)).drop (k0 + 1)).take (n - (k0 + 1)) = (hd.sums.map (Value.int .i64)).drop (k0 + 1) := List.take_of_length_le (by rw [List.length_drop, List.length_map, HSL.out]; exact Nat.le_refl _)
                rw [e2] at hown
                exact hown
              have HN9L := Lib.hid hn9
              have b9 := b7.trans (h9.mono b7.size)
              have hB9 : B ≤ w9.heap.size := Nat.le_trans hB7 h9.size
              obtain ⟨lo, lc, hv9⟩ := IOwn.shape HL9.out
              rw [hn9] at hv9
              subst hv9
              have hn9s : n9 ≤ 100 := by have := HN9.out; have := H0.out.few; omega
              have C := Lib.hid (heldSums_any B b (lessH hd k0) w9 (HI8.out.below h9))
              clear hown hgrow HS8 HL8 HO8 m3 m4 nl2 nc2 hsl2 hn9 h8
              go_wp2_with fail
              refine C.out.mono ?_
              clear C
              rintro e w10 ⟨⟨x, rfl, HX10⟩, hb10⟩
              have C := sameInts_any (IOwn.row HX10.out) (IOwn.row (IOwn.ext HL9.out hb10))
              rw [decide_eq_true (rfl : (lessH hd k0).sums = (lessH hd k0).sums)] at C
              have C := Lib.hid C
              go_wp2_with fail
              refine C.out.mono ?_
              clear C HX10
              rintro e w11 ⟨rfl, hb11⟩
              have h11 : Below w9.heap.size w9 w11 := hb10.trans (hb11.mono hb10.size)
              have h711 : Below w7.heap.size w7 w11 := h9.trans (h11.mono h9.size)
              have HI11 := Lib.hid (HI8.out.below h711)
              have HL11 := Lib.hid (IOwn.ext HL9.out h11)
              have HS11 := Lib.hid (IOwn.ext HS7.out h711)
              have HT11 := Lib.hid (FOwn.ext HT7.out h711)
              have b11 := b9.trans (h11.mono b9.size)
              have h7s : w7.heap.size ≤ w11.heap.size := h711.size
              have hB11 : B ≤ w11.heap.size := Nat.le_trans hB9 h11.size
              clear HL9 HT7 hb10 hb11 h9 h11 hge g0
              go_wp2_with fail
              go_loopw [12] (fun i wr => ∃ j : Nat, j ≤ n9 ∧ i = .int .i64 j ∧ Below w11.heap.size w11 wr) (fun i _ => n9 - (intOf i).toNat)
              case atStart => exact ⟨0, Nat.zero_le _, rfl, Below.refl _ _⟩
              case round =>
                obtain ⟨j, hj, rfl, hbr⟩ := hrel
                have br := b11.trans (hbr.mono b11.size)
                have hBr2 : B ≤ wr.heap.size := Nat.le_trans hB11 hbr.size
                have HIr := Lib.hid (HI11.out.below hbr)
                have HLr := Lib.hid (IOwn.ext HL11.out hbr)
                by_cases hjn : j < n9
                · have hjs : j < (lessH hd k0).sums.length := by rw [HN9L.out]; exact hjn
                  obtain ⟨lb, lf, rfl⟩ := iown_open HLr.out (by omega)
                  have qj := iown_at HLr.out j hjs
                  have hmem := List.getElem_mem hjs
                  generalize (lessH hd k0).sums[j] = s9 at qj hmem
                  have C := Lib.hid (heldGet_any (E := E) B b (lessH hd k0) s9 (mem_i64 HIr.out.1 hmem) wr HIr.out (HE.out.ext br).1.1)
                  have HME := Lib.hid hmem
                  clear hmem hjs
                  go_wp2_with fail
                  refine C.out.mono ?_
                  clear C
                  rintro e w12 ⟨⟨gl, gv, _, rfl, _⟩ | ⟨ho, _⟩, hb12⟩
                  · have hb13 := hbr.trans (hb12.mono hbr.size)
                    clear HIr HLr qj
                    go_wp2_with fail
                    go_roundw
                    case rel => exact ⟨j + 1, by omega, by go_num, hb13⟩
                    case measure => simp [intOf]; omega
                  · obtain ⟨gl, hgl⟩ := getL_mem HME.out
                    rw [hgl] at ho; cases ho
                · obtain rfl : n9 = j := by omega
                  have HSr := Lib.hid (IOwn.ext HS11.out hbr)
                  have qr := iown_at HSr.out k0 hks.out
                  rw [hsn] at qr
                  have C := Lib.hid (heldGet_any (E := E) B b (lessH hd k0) n0 hI64 wr HIr.out (HE.out.ext br).1.1)
                  go_wp2_with fail
                  refine C.out.mono ?_
                  clear C
                  rintro e w12 ⟨⟨gl, gv, ho, _⟩ | ⟨_, rfl⟩, hb12⟩
                  · rw [← HN0.out, less_get hd H0.out k0 hkn.out] at ho; cases ho
                  · have h12 : Below w11.heap.size w11 w12 := hbr.trans (hb12.mono hbr.size)
                    have b12 := b11.trans (h12.mono b11.size)
                    have hB12 : B ≤ w12.heap.size := Nat.le_trans hB11 h12.size
                    have HT12 := Lib.hid (FOwn.ext HT11.out h12)
                    have hright := right_len (H0.out.right _ (List.getElem_mem hkn.out)).1
                    rw [← htl.out] at hright
                    have C := heldPut_any (E := E) B b (lessH hd k0) tv tl w12 (fun w' hk => FOwn.arg (hk.owns HT12.out heldRow_files)) hright.1 hright.2 (HI11.out.below h12) hB12 (HE.out.ext b12)
                    rw [htl.out, less_put hd H0.out k0 hkn.out, HN0.out] at C
                    have C := Lib.hid C
                    have HS12 := Lib.hid (IOwn.ext HS11.out h12)
                    have HL12 := Lib.hid (IOwn.ext HL11.out h12)
                    clear HIr HLr HSr qr hright HI11 HT11 HL11 HS11
                    go_wp2_with fail
                    refine C.out.mono ?_
                    clear C
                    rintro e w13 ⟨⟨ev, rfl, HER⟩, HI13, K13, OF13⟩
                    obtain rfl : ev = .nilIface := HER.nil_inv
                    have HI13 := Lib.hid HI13
                    have HS13 := Lib.hid (show IOwn w13 B _ hd.sums from K13.owns HS12.out heldRow_ints)
                    have HL13 := Lib.hid (show IOwn w13 w7.heap.size _ (lessH hd k0).sums from K13.owns HL12.out heldRow_ints)
                    have q13 := iown_at HS13.out k0 hks.out
                    rw [hsn] at q13
                    have b13 := b12.trans (K13.below.mono hwB)
                    have hB13 := below_size K13.below hB12
                    have h12s : w7.heap.size ≤ w12.heap.size := Nat.le_trans h7s h12.size
                    have hbase : w7.heap.size ≤ (w13.alloc (.cells #[.int .i64 n0] 3)).heap.size := by have := Nat.le_trans h12s K13.below.size; simp; omega
                    have m5 : n9 + 1 ≤ maxLen := by rw [maxLen_eq]; omega
                    have m6 : (n9 + 1) * 8 ≤ 140737488355328 := by omega
                    have HO13 : Hid (w13.ownsRow w7.heap.size 3 1 (.slice lo n9 lc) n9 ((lessH hd k0).sums.map (Value.int .i64))) := by
                      have q := HL13.out
                      unfold IOwn at q
                      rw [HN9L.out] at q
                      exact q
                    have K13s := K13.below.size
                    have HNE := Lib.hid (order_ne HI8.out (h711.trans (h12.mono h7s)) HL12.out OF13)
                    clear HS12 HL12 HT12 K13 HER
                    dsimp only
                    go_wp2_with (at_builtin; refine wpList_append_own _ rfl _ _ 35 rfl w7.heap.size 3 i0 (.int .i64 0) 1 8 Tryz.underlying35 hi0 hz0 hz1 hz2 rfl (by decide) (.slice lo n9 lc) n9 _ rfl (World.ownsRow.alloc HO13.out _) ⟨w13.heap.size, 0, none⟩ 1 1 [.int .i64 n0] rfl rfl ?c1 ?c2 m5 m6 hbase ?_)
                    case c2 => rfl
                    intro v14 w14 hown hgrow _
                    have h14 : Below w7.heap.size w13 w14 := ((Below.refl w7.heap.size w13).alloc (Nat.le_trans h12s K13s) _).grown hgrow hbase (fun r e => (World.ownsRow.lt HL13.out r e).1)
                    have b14 := b13.trans (h14.mono b7.size)
                    have HL14 : Hid (IOwn w14 w7.heap.size v14 (backH hd k0 hkn.out).sums) := by
                      show World.ownsRow _ _ _ _ _ _ _
                      have e : (backH hd k0 hkn.out).sums = (lessH hd k0).sums ++ [n0] := by rw [backH_sums, lessH_sums, HN0.out]
                      rw [e, List.length_append, HN9L.out, List.map_append]
                      exact hown
                    have hsb : sb < w7.heap.size := World.block_lt_of_cell? _ _ (iown_at HS7.out k0 hks.out)
                    have q14 := (h14.cell (p := ⟨sb, so + k0, none⟩) hsb).trans q13
                    have HI14 : Hid (HeldIs w14 B b (backH hd k0 hkn.out)) := by
                      have hal : Below w13.heap.size w13 (w13.alloc (.cells #[.int .i64 n0] 3)) := (Below.refl _ _).alloc (Nat.le_refl _) _
                      refine held_grown (HI13.out.below hal) hgrow (iown_row (IOwn.ext HL13.out hal)) ?_
                      intro ov' h'
                      rw [hal.cell (p := ⟨b, 1, none⟩) HI13.out.lt] at h'
                      exact HNE.out ov' h'
                    have C := Lib.hid (codedTwo_any (HE.out.ext b14).1.1 (IsErr.base E w14 5 (by decide)) 6)
                    rw [show codedB2 (Er.base (5 + 1)) 6 = true from rfl] at C
                    clear hown hgrow HL13 HS13 q13 HI13 HNE HO13 m5 m6 hbase
                    go_wp2_with fail
                    refine C.out.mono ?_
                    clear C
                    rintro e w15 ⟨rfl, hb15⟩
                    have b15 := b14.trans (hb15.mono b14.size)
                    have q15 := (hb15.cell (p := ⟨sb, so + k0, none⟩) (World.block_lt_of_cell? _ _ q14)).trans q14
                    have HI15 := Lib.hid (HI14.out.below hb15)
                    have HL15 := Lib.hid (IOwn.ext HL14.out hb15)
                    have hnn : (n0 == n0) = true := beq_self_eq_true _
                    have C := Lib.hid (heldSums_any B b (backH hd k0 hkn.out) w15 HI15.out)
                    clear HI14 HL14 q14
                    go_wp2_with fail
                    refine C.out.mono ?_
                    clear C
                    rintro e w16 ⟨⟨x, rfl, HX16⟩, hb16⟩
                    have C := sameInts_any (IOwn.row HX16.out) (IOwn.row (IOwn.ext HL15.out hb16))
                    rw [decide_eq_true (rfl : (backH hd k0 hkn.out).sums = (backH hd k0 hkn.out).sums)] at C
                    have C := Lib.hid C
                    have b16 := b15.trans (hb16.mono b15.size)
                    clear HX16 HL15 HI15 q15
                    go_wp2_with fail
                    refine C.out.mono ?_
                    clear C
                    rintro e w17 ⟨rfl, hb17⟩
                    go_wp2_with fail
                    go_ret
                    exact ⟨rfl, b16.trans (hb17.mono b16.size)⟩
            · rw [HG.out] at ho; cases ho
          · have hge : decide ((n : Int) ≤ (k0 : Int)) = true := decide_eq_true (by omega)
            obtain ⟨so, sc, hsv⟩ := IOwn.shape HS4.out
            rw [hnl] at hsv
            subst hsv
            clear hnl
            go_wp2_with fail
            go_ret
            exact ⟨rfl, b4⟩
end Go.Proofs.YtjebljhhbnfpfaaGreatDoor
