/- chandlerylaw2.MirrorWays: the walk. -/
import Derived.Test.YtkplekkldkmdhaaDoorMirrorLaw
namespace Go.Proofs.YtkplekkldkmdhaaDoor
open Go Go.RowKit

theorem waysEr_zero {l : List RuleL} {s : List UInt8} (h : (waysEr l s).code = 0) : (rulesEr l).code = 0 ∧ linkE s = 0 ∧ waysEr l s = ⟨0, none⟩ := by
  unfold waysEr at h ⊢
  by_cases h0 : (rulesEr l).code = 0
  · rw [if_pos h0] at h ⊢
    exact ⟨h0, h, by simp only at h; rw [h]⟩
  · rw [if_neg h0] at h; exact absurd h h0
theorem rulesEr_zero {l : List RuleL} : (rulesEr l).code = 0 ↔ l.length ≤ 10 ∧ ∀ r ∈ l, oneE r = 0 := by
  unfold rulesEr
  by_cases h : 10 < l.length
  · rw [if_pos h]
    constructor
    · intro h2; cases h2
    · intro h2; omega
  · rw [if_neg h]
    cases hb : badAt 0 l with
    | none => exact ⟨fun _ => ⟨by omega, (badAt_none l 0).1 hb⟩, fun _ => rfl⟩
    | some p =>
      have := badAt_le l 0 hb
      constructor
      · intro h2; exact absurd h2 this.2
      · intro h2; rw [(badAt_none l 0).2 h2.2] at hb; cases hb
/-- Rules without one of them. -/
theorem waysEr_less {l : List RuleL} {s : List UInt8} (h : (waysEr l s).code = 0) {m : List RuleL} (hm : m.length ≤ l.length) (hs : ∀ r ∈ m, r ∈ l) : waysEr m s = ⟨0, none⟩ := by
  obtain ⟨h1, h2, _⟩ := waysEr_zero h
  obtain ⟨h3, h4⟩ := rulesEr_zero.1 h1
  have : (rulesEr m).code = 0 := rulesEr_zero.2 ⟨by omega, fun r hr => h4 r (hs r hr)⟩
  unfold waysEr
  rw [if_pos this, h2]

theorem nodup_at {xs : List ByteArray} (h : (xs.map bl).Nodup) (k : Nat) (hk : k < xs.length) : ((xs.take k).map bl).contains (bl xs[k]) = false := by
  rw [← Bool.not_eq_true, List.contains_iff_mem]
  intro hm
  obtain ⟨z, hz, e⟩ := List.mem_map.1 hm
  obtain ⟨j, hj, rfl⟩ := List.getElem_of_mem hz
  rw [List.length_take] at hj
  rw [List.getElem_take] at e
  have h2 := (List.pairwise_iff_getElem.1 h) j k (by rw [List.length_map]; omega) (by rw [List.length_map]; exact hk) (by omega)
  rw [List.getElem_map, List.getElem_map] at h2
  exact h2 e

theorem cutEq {l sep : List UInt8} (h : (Lib.cut l sep).2.2 = true) : l = (Lib.cut l sep).1 ++ (sep ++ (Lib.cut l sep).2.1) := by
  rcases Lib.index_spec l sep with ⟨h1, _⟩ | ⟨i, h1, _, h3, _⟩
  · unfold Lib.cut at h; rw [h1] at h; simp at h
  · obtain ⟨r, hr⟩ := List.isPrefixOf_iff_prefix.1 h3
    have e : Lib.cut l sep = (l.take i, l.drop (i + sep.length), true) := by
      unfold Lib.cut
      rw [h1, if_pos (by omega)]
      simp
    rw [e]
    show l = l.take i ++ (sep ++ l.drop (i + sep.length))
    have : l.drop (i + sep.length) = r := by rw [← List.drop_drop, ← hr, List.drop_left]
    rw [this, hr, List.take_append_drop]
theorem partLen {x : List UInt8} (h : partB x = true) : x.length ≤ 12 := by
  unfold partB at h
  simp only [Bool.and_eq_true, decide_eq_true_eq] at h
  exact h.1.1.1.2
theorem partsLen : ∀ w : List (List UInt8), w.all partB = true → ([47].intercalate w : List UInt8).length ≤ w.length * 13
  | [], _ => by simp [List.intercalate]
  | [x], h => by
    rw [List.all_cons, Bool.and_eq_true] at h
    have := partLen h.1
    simp [List.intercalate]; omega
  | x :: y :: r, h => by
    rw [List.all_cons, Bool.and_eq_true] at h
    have := partLen h.1
    have ih := partsLen (y :: r) h.2
    rw [join_cons, List.length_append, List.length_cons]
    simp only [List.length_cons] at ih ⊢; omega
/-- A link is short. -/
theorem link_len {l : List UInt8} (h : linkE l = 0) : l.length ≤ 200 := by
  unfold linkE at h
  by_cases h0 : lkE l = 0
  · rw [if_pos h0] at h
    obtain ⟨p1, p2⟩ := partsE_ok h
    have lp : (lkP l).length ≤ 78 := by
      have := partsLen _ p1
      rw [cutL_join] at this
      omega
    unfold lkE at h0
    split at h0
    · cases h0
    · rename_i c1
      split at h0
      · cases h0
      · rename_i c2
        split at h0
        · cases h0
        · rename_i c3
          have e1 : lkIs l = true := by cases hq : lkIs l; simp [hq] at c1; rfl
          have e2 : lkAlso l = true := by cases hq : lkAlso l; simp [hq] at c1; rfl
          have e3 : kinds.contains (lkK l) = true := by simpa using c2
          have e4 : partB (lkH l) = true := by simpa using c3
          have l1 := congrArg List.length (cutEq e1)
          have l2 := congrArg List.length (cutEq e2)
          rw [List.length_append, List.length_append] at l1 l2
          have k4 : (lkK l).length ≤ 4 := by
            have := List.contains_iff_mem.1 e3
            unfold kinds at this
            simp only [List.mem_cons, List.not_mem_nil, or_false] at this
            rcases this with h | h | h <;> rw [h] <;> decide
          have k5 := partLen e4
          have k6 : sepL.length = 3 := rfl
          have k7 : ([47] : List UInt8).length = 1 := rfl
          unfold lkK at k4
          unfold lkP at lp
          unfold lkH at k5
          unfold lkR at *
          omega
  · rw [if_neg h0] at h; exact absurd h h0
/-- The first texts of a row. -/
theorem row_take {w : World} {b off : Nat} {zs : List ByteArray} (h : ∀ j, (hj : j < zs.length) → w.cell? ⟨b, off + j, none⟩ = some (.string zs[j])) (hb : b < w.heap.size) (k : Nat) (hk : k ≤ zs.length) (c : Nat) (hc : k ≤ c) (hm : c ≤ maxLen) :
    Row encStr 1 w (.slice (some ⟨b, off, none⟩) k c) (zs.take k) := by
  have hl : (zs.take k).length = k := by rw [List.length_take]; omega
  refine .inr ⟨b, off, c, by rw [hl], by rw [hl]; exact hc, hm, hb, fun i hi j hj => ?_⟩
  obtain rfl : j = 0 := by omega
  rw [hl] at hi
  have := h i (by omega)
  rw [List.getElem_take]
  simp [this]

theorem mem_less {l : List RuleB} {n : Nat} {r : RuleB} (h : r ∈ l.take n ++ l.drop (n + 1)) : r ∈ l := by
  rcases List.mem_append.1 h with h | h
  · exact List.mem_of_mem_take h
  · exact List.mem_of_mem_drop h
/-- Whether a rule with which the link begins is longer than the one at n. -/
def longB (s : List UInt8) (l : List RuleL) (r : RuleL) : Bool := (!Lib.hasPrefix s r.1) || l.any fun x => Lib.hasPrefix s x.1 && decide (r.1.length < x.1.length)
theorem longB_take {s : List UInt8} {l : List RuleB} {r : RuleL} (k : Nat) (hk : k < l.length) :
    longB s ((l.map ruleOf).take (k + 1)) r = (longB s ((l.map ruleOf).take k) r || (Lib.hasPrefix s (bl l[k].1) && decide (r.1.length < l[k].1.size))) := by
  unfold longB
  rw [List.take_add_one, List.getElem?_map, List.getElem?_eq_getElem hk, List.any_append, ← Bool.or_assoc]
  congr 1
  show ([ruleOf l[k]] : List RuleL).any _ = _
  simp only [List.any_cons, List.any_nil, Bool.or_false]
  rw [show (ruleOf l[k]).1 = bl l[k].1 from rfl, bl_length]
theorem longB_law {s : List UInt8} {l : List RuleL} {n : Nat} (hn : n < l.length) (h : longB s l l[n] = true) : waysOut (l.take n ++ l.drop (n + 1)) s = waysOut l s := by
  have e : l = l.take n ++ l[n] :: l.drop (n + 1) := by rw [← List.drop_eq_getElem_cons hn, List.take_append_drop]
  have key := waysOut_less (s := s) (l.take n) (l.drop (n + 1)) l[n] (by
    rw [← e]
    unfold longB at h
    rw [Bool.or_eq_true] at h
    rcases h with h | h
    · exact .inl (by simpa using h)
    · obtain ⟨x, hx, h2⟩ := List.any_eq_true.1 h
      rw [Bool.and_eq_true, decide_eq_true_eq] at h2
      exact .inr ⟨x, hx, h2.1, h2.2⟩)
  rw [← e] at key
  exact key

set_option maxHeartbeats 4000000 in
set_option maxRecDepth 100000 in
theorem mirrorWays_walk {E : Nat → Addr} {w : World} (hE : LEnv E w) (v : Value) (l : List RuleB) (hv : RulesRow w v l) (s : ByteArray) (n : Int) (hn : (Lit.int .i64 n).wf = true) :
    Calls Tryd.prog 4 #[v, .string s, .int .i64 n] w fun e w' => e = .returned (.bool true) ∧ Below w.heap.size w w' := by
  obtain ⟨i1, hi1, hy0, hy1, hy2⟩ := info_parts Tryd.infoR
  have C := Lib.hid (mirrored_any w hE)
  have HE := Lib.hid hE
  have HV := Lib.hid hv
  obtain ⟨ao, cap, rfl, h1, h2, H3⟩ := hv
  have HM := Lib.hid H3
  clear hE H3
  go_enter Tryd.func4, Tryd.ntmps4
  go_wp2_with fail
  refine C.out.mono ?_
  clear C
  rintro e w1 ⟨rfl, b1⟩
  have C := Lib.hid (longRules_any _ l w1 (HV.out.ext b1))
  go_wp2_with fail
  refine C.out.mono ?_
  clear C
  intro e w2 hp
  unfold LongPost at hp
  obtain ⟨⟨q, rfl, hq, HS⟩, rfl⟩ := hp
  rcases hq with rfl | rfl
  · obtain ⟨hl, hsm⟩ := HS.out rfl
    have HSM := Lib.hid hsm
    clear HS hsm
    by_cases ls : s.size ≤ 120
    · have C := Lib.hid (ways_any _ l s w1 (by omega) HSM.out ls (HV.out.ext b1) (HE.out.ext b1))
      go_wp2_with fail
      refine C.out.mono ?_
      clear C
      intro e w3 hp
      unfold WaysPost at hp
      obtain ⟨⟨ov, ev, xs, rfl, HER, HR, HX, hx⟩, hb⟩ := hp
      have b3 := b1.trans (hb.mono b1.size)
      clear hb
      by_cases h0 : (waysEr (l.map ruleOf) (bl s)).code = 0
      · obtain ⟨z1, z2, z3⟩ := waysEr_zero h0
        have hev : ev = .nilIface := by
          have h := HER.out
          rw [z3] at h
          exact h.nil_inv
        subst hev
        have HXO : Hid (xs.map bl = waysOut (l.map ruleOf) (bl s)) := by show _ = _; rw [HX.out, if_pos h0]
        have HOK := Lib.hid (waysOut_ok (l := l.map ruleOf) z2)
        have HZ0 := Lib.hid h0
        clear HER HX h0 z1 z2 z3
        obtain ⟨ao3, cap3, rfl, g1, g2, G3⟩ := HR.out.parts
        have HG := Lib.hid G3
        have HLK : Hid (∀ z ∈ xs, linkE (bl z) = 0) := fun z hz => HOK.out.1 _ (by rw [← HXO.out]; exact List.mem_map.2 ⟨z, hz, rfl⟩)
        have HND : Hid ((xs.map bl).Nodup) := by show List.Nodup _; rw [HXO.out]; exact HOK.out.2.1
        have HIN : Hid ((xs.map bl).contains (bl s) = true) := by show _ = _; rw [HXO.out]; exact List.contains_iff_mem.2 HOK.out.2.2
        clear G3
        go_wp2_with fail
        go_loopw [10] (fun i wr => ∃ k : Nat, k ≤ xs.length ∧ i = .int .i64 k ∧ Below w3.heap.size w3 wr) (fun i _ => xs.length - (intOf i).toNat)
        case atStart => exact ⟨0, Nat.zero_le _, rfl, Below.refl _ _⟩
        case round =>
          obtain ⟨k, hk, rfl, hb⟩ := hrel
          have b4 := b3.trans (hb.mono b3.size)
          by_cases hlt : k < xs.length
          · obtain ⟨b, off, rfl, hbl, hcell⟩ := HG.out k hlt
            have cl := (hb.cell (p := ⟨b, off + k, none⟩) hbl).trans (hcell k hlt)
            have HT := Lib.hid (nodup_at HND.out k hlt)
            have HL := Lib.hid (HLK.out xs[k] (List.getElem_mem hlt))
            have HROW : Hid (∀ W, Below wr.heap.size wr W → ∀ c, k ≤ c → c ≤ maxLen → Row encStr 1 W (.slice (some ⟨b, off, none⟩) k c) (xs.take k)) := fun W hW c hc hc2 =>
              row_take (fun j hj => (hW.cell (p := ⟨b, off + j, none⟩) (Nat.lt_of_lt_of_le hbl hb.size)).trans ((hb.cell (p := ⟨b, off + j, none⟩) hbl).trans (hcell j hj))) (Nat.lt_of_lt_of_le hbl (Nat.le_trans hb.size hW.size)) k (by omega) c hc hc2
            clear hcell
            obtain ⟨z, hz⟩ : ∃ z, xs[k] = z := ⟨_, rfl⟩
            rw [hz] at cl HT HL
            clear hz
            have hz2 : z.size ≤ 200 := by rw [← bl_length]; exact link_len HL.out
            have hdr : Below wr.heap.size wr wr.drew := (Below.refl _ wr).drew
            have CK : Hid (Calls Tryd.prog 11 #[.string z] wr.drew fun e w' => e = .returned .nilIface ∧ Below wr.heap.size wr w') := by
              refine (linkCheck_any z wr.drew (by omega) (HE.out.ext (b4.trans (hdr.mono b4.size)))).mono ?_
              rintro e w' ⟨rfl, h⟩
              exact ⟨by rw [HL.out]; rfl, hdr.trans h⟩
            have CQ : Hid (∀ W, Below wr.heap.size wr W → W.cell? ⟨b, off + k, none⟩ = some (.string z) ∧ Calls Tryd.prog 18 #[.string z, .slice (some ⟨b, off, none⟩) k cap3] W fun e w' => e = .returned (.bool false) ∧ Below wr.heap.size wr w') := by
              intro W hW
              refine ⟨(hW.cell (p := ⟨b, off + k, none⟩) (Nat.lt_of_lt_of_le hbl hb.size)).trans cl, (refInTexts_any z (HROW.out W hW cap3 (by omega) (by omega)) (by rw [List.length_take]; omega)).mono ?_⟩
              rintro e w' ⟨rfl, h⟩
              exact ⟨by rw [HT.out], hW.trans (h.mono hW.size)⟩
            clear HROW HT HL hdr
            go_wp2_with fail
            go_region_with (first
              | (go_at_call 11; refine CK.out.mono ?_; clear CK; rintro e w5 ⟨rfl, hb5⟩; obtain ⟨cl5, CI⟩ := CQ.out w5 hb5; clear CQ)
              | (go_at_call 18; refine CI.mono ?_; clear CI; rintro e w6 ⟨rfl, hb6⟩))
            all_goals go_wp2_with fail
            all_goals exact ⟨⟨k + 1, by omega, by go_num, hb.trans (hb6.mono hb.size)⟩, by simp [intOf]; omega⟩
          · obtain rfl : k = xs.length := by omega
            have C := Lib.hid (refInTexts_any s (HR.out.ext hb) (by omega))
            rw [HIN.out] at C
            go_wp2_with fail
            refine C.out.mono ?_
            clear C
            rintro e w5 ⟨rfl, hb5⟩
            have hb6 := hb.trans (hb5.mono hb.size)
            have b5 := b4.trans (hb5.mono b4.size)
            clear hb5
            by_cases hN : 0 ≤ n ∧ n < l.length
            · obtain ⟨N, rfl⟩ : ∃ N : Nat, n = N := ⟨n.toNat, by omega⟩
              have hNl : N < l.length := by omega
              obtain ⟨b, off, rfl, hbl, hcell⟩ := HM.out N hNl
              have HCL := Lib.hid hcell
              obtain ⟨e1, _⟩ := hcell N hNl
              obtain ⟨f, hf⟩ : ∃ f, l[N].1 = f := ⟨_, rfl⟩
              have hfz : f.size ≤ 120 := by rw [← hf]; exact (HSM.out _ (List.getElem_mem hNl)).1
              rw [hf] at e1
              have HF := Lib.hid hf
              have cl1 := (b5.cell (p := ⟨b, off + N * 2, none⟩) hbl).trans e1
              clear hcell hf
              go_wp2_with fail
              refine (refBegins_any s f w5).mono ?_
              rintro e w6 ⟨rfl, rfl⟩
              go_wp2_with fail
              go_loopw [11, 12] (fun q i wr => ∃ k : Nat, k ≤ l.length ∧ i = .int .i64 k ∧ Hid (q = .bool (longB (bl s) ((l.map ruleOf).take k) (ruleOf l[N]))) ∧ Below w5.heap.size w5 wr) (fun _ i _ => l.length - (intOf i).toNat)
              case atStart => exact ⟨0, Nat.zero_le _, rfl, by show _ = _; unfold longB; rw [show (ruleOf l[N]).1 = bl f by rw [← HF.out]; rfl]; simp, Below.refl _ _⟩
              case round =>
                obtain ⟨k, hk, rfl, HQ, hb7⟩ := hrel
                have b7 := b5.trans (hb7.mono b5.size)
                obtain ⟨q, hq⟩ : ∃ q, longB (bl s) ((l.map ruleOf).take k) (ruleOf l[N]) = q := ⟨_, rfl⟩
                have hu := HQ.out
                rw [hq] at hu
                subst hu
                have cN := (b7.cell (p := ⟨b, off + N * 2, none⟩) hbl).trans e1
                by_cases hlt : k < l.length
                · obtain ⟨d1, _⟩ := HCL.out k hlt
                  have HT := Lib.hid (longB_take (s := bl s) (r := ruleOf l[N]) k hlt)
                  have ck := (b7.cell (p := ⟨b, off + k * 2, none⟩) hbl).trans d1
                  have gz := (HSM.out _ (List.getElem_mem hlt)).1
                  obtain ⟨g, hg⟩ : ∃ g, l[k].1 = g := ⟨_, rfl⟩
                  rw [hg] at ck gz HT
                  have HLN : Hid ((ruleOf l[N]).1.length = f.size) := by show _ = _; rw [← bl_length, ← HF.out]; rfl
                  rw [hq, HLN.out] at HT
                  have HB := Lib.hid (fun W => (refBegins_any s g W).mono (R' := fun e w' => e = .returned (.bool (Lib.hasPrefix (bl s) (bl g))) ∧ w' = W) (fun e w' h => ⟨h.1, h.2.symm⟩))
                  clear d1 hg hq HQ
                  cases q with
                  | true =>
                    have HQ2 : Hid (Value.bool true = .bool (longB (bl s) ((l.map ruleOf).take (k + 1)) (ruleOf l[N]))) := by show _ = _; rw [HT.out]; rfl
                    clear HT
                    go_wp2_with fail
                    go_quiet (fail)
                    go_wp2_with fail
                    go_roundw
                    case rel => exact ⟨k + 1, by omega, by go_num, HQ2, hb7.trans ((below_drewN _ _ _).mono hb7.size)⟩
                    case measure => simp [intOf]; omega
                  | false =>
                    cases hp : Lib.hasPrefix (bl s) (bl g) with
                    | false =>
                      rw [hp] at HB HT
                      have HQ2 : Hid (Value.bool false = .bool (longB (bl s) ((l.map ruleOf).take (k + 1)) (ruleOf l[N]))) := by show _ = _; rw [HT.out]; rfl
                      clear HT hp
                      go_wp2_with fail
                      go_quiet (exact Calls.quiet_of_same (HB.out _))
                      go_wp2_with fail
                      go_roundw
                      case rel => exact ⟨k + 1, by omega, by go_num, HQ2, hb7.trans ((below_drewN _ _ _).mono hb7.size)⟩
                      case measure => simp [intOf]; omega
                    | true =>
                      rw [hp] at HB HT
                      have HQ2 : Hid (Value.bool (decide (f.size < g.size)) = .bool (longB (bl s) ((l.map ruleOf).take (k + 1)) (ruleOf l[N]))) := by
                        show _ = _
                        rw [HT.out]
                        simp
                      clear HT hp
                      go_wp2_with fail
                      go_quiet (exact Calls.quiet_of_same (HB.out _))
                      go_wp2_with fail
                      go_roundw
                      case rel => exact ⟨k + 1, by omega, by go_num, HQ2, hb7.trans ((below_drewN _ _ _).mono hb7.size)⟩
                      case measure => simp [intOf]; omega
                · obtain rfl : k = l.length := by omega
                  rw [show (l.map ruleOf).take l.length = l.map ruleOf from List.take_of_length_le (by rw [List.length_map]; exact Nat.le_refl _)] at hq
                  cases q with
                  | false =>
                    clear hq HQ
                    go_wp2_with fail
                    go_ret
                    exact ⟨rfl, b7⟩
                  | true =>
                    have HLO : Hid (waysOut ((l.map ruleOf).take N ++ (l.map ruleOf).drop (N + 1)) (bl s) = waysOut (l.map ruleOf) (bl s)) :=
                      longB_law (by rw [List.length_map]; exact hNl) (by rw [List.getElem_map]; exact hq)
                    clear hq HQ
                    have hdr : Below wr.heap.size wr wr.drew := (Below.refl _ wr).drew
                    have HCW : Hid (∀ W, Below wr.heap.size wr W → ∀ j, (hj : j < l.length) → W.cell? ⟨b, off + j * 2, none⟩ = some (.string l[j].1) ∧ ∃ tv, W.cell? ⟨b, off + j * 2 + 1, none⟩ = some tv ∧ RowP W tv l[j].2) := by
                      intro W hW j hj
                      have bW := b7.trans (hW.mono b7.size)
                      obtain ⟨c1, tv, c2, c3⟩ := HCL.out j hj
                      exact ⟨(bW.cell (p := ⟨b, off + j * 2, none⟩) hbl).trans c1, tv, (bW.cell (p := ⟨b, off + j * 2 + 1, none⟩) hbl).trans c2, c3.ext bW⟩
                    have hbw : b < wr.heap.size := Nat.lt_of_lt_of_le hbl b7.size
                    have hl1 : (l.take N).length = N := by rw [List.length_take]; omega
                    have CA : Hid (Calls Tryd.prog 19 #[.slice (some ⟨b, off, none⟩) N cap] wr.drew fun e w' => (∃ ov, e = .returned ov ∧ Hid (RulesOwn w' wr.heap.size ov (l.take N))) ∧ Below wr.heap.size wr w') := by
                      have hr := sub_rules (HCW.out _ hdr) hbw 0 N (by omega) off (by omega) cap (by omega) h2
                      rw [List.drop_zero] at hr
                      refine (ownRules_any _ _ _ (by rw [hl1]; omega) (fun r hr => HSM.out r (List.mem_of_mem_take hr)) hr).mono ?_
                      rintro e w' ⟨h, hb⟩
                      exact ⟨h, hdr.trans hb⟩
                    have hwf : 0 ≤ (N : Int) ∧ (N : Int) + 1 ≤ 100 := by omega
                    have hNc : N ≤ cap := by omega
                    have hNc2 : N + 1 ≤ l.length := by omega
                    have hNc3 : N + 1 ≤ cap := by omega
                    have hw64 : IntKind.i64.wrap ((N : Int) + 1) = (N : Int) + 1 := IntWalk.i64_in _ (by omega)
                    have hp1 : (0 : Int) ≤ (N : Int) + 1 := by omega
                    have hp2 : (N : Int) + 1 ≤ (l.length : Int) := by omega
                    by_cases hlast : N + 1 < l.length
                    · have hcne : ¬ cap = N + 1 := by omega
                      have hl2 : (l.drop (N + 1)).length = l.length - (N + 1) := List.length_drop
                      have CB : Hid (∀ W, Below wr.heap.size wr W → Calls Tryd.prog 19 #[.slice (some ⟨b, off + (N + 1) * 2, none⟩) (l.length - (N + 1)) (cap - (N + 1))] W fun e w' => (∃ ov, e = .returned ov ∧ Hid (RulesOwn w' W.heap.size ov (l.drop (N + 1)))) ∧ Below W.heap.size W w') := by
                        intro W hW
                        have hr := sub_rules (HCW.out _ hW) (Nat.lt_of_lt_of_le hbw hW.size) (N + 1) (l.length - (N + 1)) (by omega) (off + (N + 1) * 2) rfl (cap - (N + 1)) (by omega) (by omega)
                        rw [List.take_of_length_le (by omega)] at hr
                        exact ownRules_any _ _ _ (by rw [hl2]; omega) (fun r hr => HSM.out r (List.mem_of_mem_drop hr)) hr
                      obtain ⟨m, hm⟩ : ∃ m, (l.drop (N + 1)).length = m + 1 := ⟨l.length - (N + 1) - 1, by rw [hl2]; omega⟩
                      have hB1 : N + (m + 1) ≤ maxLen := by rw [maxLen_eq]; omega
                      have hB2 : (N + (m + 1)) * 40 ≤ 140737488355328 := by omega
                      clear HCW
                      go_wp2_with fail
                      go_region_law (first
                        | (go_simp; go_at_call 19; refine CA.out.mono ?_; clear CA; rintro e w8 ⟨⟨o1, rfl, O1⟩, hb8⟩)
                        | (go_simp; go_at_call 19; refine (CB.out w8 hb8).mono ?_; clear CB; rintro e w9 ⟨⟨o2, rfl, O2⟩, hb9⟩; obtain ⟨tvs1, tvs2, g2, cap2, rfl, PO, PN, PC, P1, PK⟩ := app_ready O1.out O2.out hb9 hm (by have := hb8.size; omega); have PKH := Lib.hid PK; have hb89 := hb8.trans (hb9.mono hb8.size); rw [hl1] at PO; have hsz9 : wr.heap.size ≤ w9.heap.size := hb89.size; clear PK O1 O2)
                        | (refine step_append_own rfl _ _ 30 rfl wr.heap.size 37 i1 (.agg #[.string ⟨#[]⟩, .slice none 0 0]) 2 40 Tryd.underlying30 hi1 hy0 hy1 hy2 rfl (by decide) o1 N _ rfl PO ⟨g2, 0, none⟩ (m + 1) cap2 _ rfl PN PC P1 hB1 hB2 hsz9 ?_; intro v10 w10 hown hgrow))
                      all_goals
                        have hb10 : Below wr.heap.size wr w10 := hb89.grown hgrow hsz9 (fun r e => (PO.lt r e).1)
                        have HRW := Lib.hid ((PKH.out v10 w10 (by rw [hl1]; exact hown) hgrow).row)
                        clear hown hgrow PO PN PC P1 PKH
                        have b10 := b7.trans (hb10.mono b7.size)
                        have C := Lib.hid (ways_any v10 _ s w10 (by rw [List.length_append, hl1, hl2]; omega) (fun r hr => HSM.out r (mem_less hr)) ls HRW.out (HE.out.ext b10))
                        go_wp2_with fail
                        refine C.out.mono ?_
                        clear C
                        intro e w11 hp
                        unfold WaysPost at hp
                        obtain ⟨⟨ov2, ev2, ys, rfl, HER2, HR2, HX2, hy⟩, hb11⟩ := hp
                        have b11 := b10.trans (hb11.mono b10.size)
                        have z3 := waysEr_less HZ0.out (m := (l.take N ++ l.drop (N + 1)).map ruleOf) (by rw [List.length_map, List.length_map, List.length_append, hl1, hl2]; omega) (fun r hr => by
                          obtain ⟨r2, h2, rfl⟩ := List.mem_map.1 hr
                          exact List.mem_map.2 ⟨r2, mem_less h2, rfl⟩)
                        have hev2 : ev2 = .nilIface := by
                          have h := HER2.out
                          rw [z3] at h
                          exact h.nil_inv
                        subst hev2
                        have hyx : xs.map bl = ys.map bl := by
                          have h := HX2.out
                          rw [z3] at h
                          rw [HXO.out, ← HLO.out, ← List.map_take, ← List.map_drop, ← List.map_append]
                          exact h.symm
                        have C := Lib.hid (sameTexts_same (HR.out.ext (hb6.trans ((hb7.trans ((hb10.trans (hb11.mono hb10.size)).mono hb7.size)).mono hb6.size))) HR2.out hyx (by omega))
                        obtain ⟨ao9, cap9, rfl, _, _, _⟩ := HR2.out.parts
                        clear HER2 HX2 z3 hyx HR2 HRW
                        go_wp2_with fail
                        refine C.out.mono ?_
                        clear C
                        rintro e w12 ⟨rfl, hb12⟩
                        go_wp2_with fail
                        go_ret
                        exact ⟨rfl, b11.trans (hb12.mono b11.size)⟩
                    · have hz0 : l.length - (N + 1) = 0 := by omega
                      have hl2 : (l.drop (N + 1)).length = 0 := by rw [List.length_drop]; exact hz0
                      have hd2 : l.drop (N + 1) = [] := List.eq_nil_of_length_eq_zero hl2
                      have HLESS : Hid (l.take N ++ l.drop (N + 1) = l.take N) := by show _ = _; rw [hd2, List.append_nil]
                      have CB : Hid (∀ a c W, Calls Tryd.prog 19 #[.slice a 0 c] W fun e w' => e = .returned (.slice none 0 0) ∧ Below W.heap.size W w') := fun a c W => ownRules_none a c W
                      obtain ⟨pp, hpp⟩ : ∃ pp : Option Addr, (if cap = N + 1 then some (⟨b, off, none⟩ : Addr) else some ⟨b, off + (N + 1) * 2, none⟩) = pp := ⟨_, rfl⟩
                      by_cases hN0 : N = 0
                      · have CA2 : Hid (Calls Tryd.prog 19 #[.slice (some ⟨b, off, none⟩) N cap] wr.drew fun e w' => (∃ c1, e = .returned (.slice none N c1) ∧ N ≤ c1 ∧ Hid (RulesOwn w' wr.heap.size (.slice none N c1) (l.take N))) ∧ Below wr.heap.size wr w') := by
                          subst hN0
                          refine (ownRules_none _ _ _).mono ?_
                          rintro e w' ⟨rfl, hb⟩
                          exact ⟨⟨0, rfl, Nat.le_refl _, by rw [List.take_zero]; exact RulesOwn.nil _ _⟩, hdr.trans hb⟩
                        clear CA hN0
                        clear HCW hd2
                        go_wp2_with fail
                        go_region_law (first
                          | (go_simp; go_at_call 19; refine CA2.out.mono ?_; clear CA2; rintro e w8 ⟨⟨c1, rfl, hc1, O1⟩, hb8⟩)
                          | (go_simp; go_at_call 19; refine (CB.out _ _ w8).mono ?_; clear CB; rintro e w9 ⟨rfl, hb9⟩; have hb89 := hb8.trans (hb9.mono hb8.size); have HRW := Lib.hid (O1.out.ext hb9).row))
                        all_goals
                          have hb10 := hb89
                          have HRW2 := Lib.hid (Eq.mpr (congrArg (RulesRow w9 _) HLESS.out) HRW.out)
                          have b10 := b7.trans (hb10.mono b7.size)
                          have C := Lib.hid (ways_any (.slice none N c1) (l.take N ++ l.drop (N + 1)) s w9 (by rw [List.length_append, hl1, hl2]; omega) (fun r hr => HSM.out r (mem_less hr)) ls HRW2.out (HE.out.ext b10))
                          go_wp2_with fail
                          refine C.out.mono ?_
                          clear C
                          intro e w11 hp
                          unfold WaysPost at hp
                          obtain ⟨⟨ov2, ev2, ys, rfl, HER2, HR2, HX2, hy⟩, hb11⟩ := hp
                          have b11 := b10.trans (hb11.mono b10.size)
                          have z3 := waysEr_less HZ0.out (m := (l.take N ++ l.drop (N + 1)).map ruleOf) (by rw [List.length_map, List.length_map, List.length_append, hl1, hl2]; omega) (fun r hr => by
                            obtain ⟨r2, h2, rfl⟩ := List.mem_map.1 hr
                            exact List.mem_map.2 ⟨r2, mem_less h2, rfl⟩)
                          have hev2 : ev2 = .nilIface := by
                            have h := HER2.out
                            rw [z3] at h
                            exact h.nil_inv
                          subst hev2
                          have hyx : xs.map bl = ys.map bl := by
                            have h := HX2.out
                            rw [z3] at h
                            rw [HXO.out, ← HLO.out, ← List.map_take, ← List.map_drop, ← List.map_append]
                            exact h.symm
                          have C := Lib.hid (sameTexts_same (HR.out.ext (hb6.trans ((hb7.trans ((hb10.trans (hb11.mono hb10.size)).mono hb7.size)).mono hb6.size))) HR2.out hyx (by omega))
                          obtain ⟨ao9, cap9, rfl, _, _, _⟩ := HR2.out.parts
                          clear HER2 HX2 z3 hyx HR2 HRW HRW2
                          go_wp2_with fail
                          refine C.out.mono ?_
                          clear C
                          rintro e w12 ⟨rfl, hb12⟩
                          go_wp2_with fail
                          go_ret
                          exact ⟨rfl, b11.trans (hb12.mono b11.size)⟩
                      · have CA2 : Hid (Calls Tryd.prog 19 #[.slice (some ⟨b, off, none⟩) N cap] wr.drew fun e w' => (∃ g c1, e = .returned (.slice (some ⟨g, 0, none⟩) N c1) ∧ N ≤ c1 ∧ Hid (RulesOwn w' wr.heap.size (.slice (some ⟨g, 0, none⟩) N c1) (l.take N))) ∧ Below wr.heap.size wr w') := by
                          refine CA.out.mono ?_
                          rintro e w' ⟨⟨ov, rfl, O⟩, hb⟩
                          obtain ⟨a1, c1, rfl, hc⟩ := own_shape O.out hl1
                          obtain ⟨tvs, _, h2, _⟩ := id O.out
                          obtain ⟨k, rfl⟩ : ∃ k, N = k + 1 := ⟨N - 1, by omega⟩
                          rw [hl1] at h2
                          obtain ⟨g, c2, e2⟩ := own_succ h2
                          obtain ⟨rfl, rfl⟩ : a1 = some ⟨g, 0, none⟩ ∧ c1 = c2 := by simpa using e2
                          exact ⟨⟨g, c1, rfl, hc, O⟩, hb⟩
                        clear CA hN0
                        clear HCW hd2
                        go_wp2_with fail
                        go_region_law (first
                          | (go_simp; go_at_call 19; refine CA2.out.mono ?_; clear CA2; rintro e w8 ⟨⟨g1, c1, rfl, hc1, O1⟩, hb8⟩)
                          | (go_simp; go_at_call 19; refine (CB.out _ _ w8).mono ?_; clear CB; rintro e w9 ⟨rfl, hb9⟩; have hb89 := hb8.trans (hb9.mono hb8.size); have HRW := Lib.hid (O1.out.ext hb9).row))
                        all_goals
                          have hb10 := hb89
                          have HRW2 := Lib.hid (Eq.mpr (congrArg (RulesRow w9 _) HLESS.out) HRW.out)
                          have b10 := b7.trans (hb10.mono b7.size)
                          have C := Lib.hid (ways_any (.slice (some ⟨g1, 0, none⟩) N c1) (l.take N ++ l.drop (N + 1)) s w9 (by rw [List.length_append, hl1, hl2]; omega) (fun r hr => HSM.out r (mem_less hr)) ls HRW2.out (HE.out.ext b10))
                          go_wp2_with fail
                          refine C.out.mono ?_
                          clear C
                          intro e w11 hp
                          unfold WaysPost at hp
                          obtain ⟨⟨ov2, ev2, ys, rfl, HER2, HR2, HX2, hy⟩, hb11⟩ := hp
                          have b11 := b10.trans (hb11.mono b10.size)
                          have z3 := waysEr_less HZ0.out (m := (l.take N ++ l.drop (N + 1)).map ruleOf) (by rw [List.length_map, List.length_map, List.length_append, hl1, hl2]; omega) (fun r hr => by
                            obtain ⟨r2, h2, rfl⟩ := List.mem_map.1 hr
                            exact List.mem_map.2 ⟨r2, mem_less h2, rfl⟩)
                          have hev2 : ev2 = .nilIface := by
                            have h := HER2.out
                            rw [z3] at h
                            exact h.nil_inv
                          subst hev2
                          have hyx : xs.map bl = ys.map bl := by
                            have h := HX2.out
                            rw [z3] at h
                            rw [HXO.out, ← HLO.out, ← List.map_take, ← List.map_drop, ← List.map_append]
                            exact h.symm
                          have C := Lib.hid (sameTexts_same (HR.out.ext (hb6.trans ((hb7.trans ((hb10.trans (hb11.mono hb10.size)).mono hb7.size)).mono hb6.size))) HR2.out hyx (by omega))
                          obtain ⟨ao9, cap9, rfl, _, _, _⟩ := HR2.out.parts
                          clear HER2 HX2 z3 hyx HR2 HRW HRW2
                          go_wp2_with fail
                          refine C.out.mono ?_
                          clear C
                          rintro e w12 ⟨rfl, hb12⟩
                          go_wp2_with fail
                          go_ret
                          exact ⟨rfl, b11.trans (hb12.mono b11.size)⟩
            · have C := Lib.hid (refInTexts_any s (HR.out.ext hb6) (by omega))
              rw [HIN.out] at C
              by_cases h3 : 0 ≤ n
              · have h4 : ¬ n < l.length := fun h => hN ⟨h3, h⟩
                clear hN
                go_wp2_with fail
                refine C.out.mono ?_
                clear C
                rintro e w6 ⟨rfl, hb7⟩
                go_wp2_with fail
                go_ret
                exact ⟨rfl, b5.trans (hb7.mono b5.size)⟩
              · clear hN
                go_wp2_with fail
                refine C.out.mono ?_
                clear C
                rintro e w6 ⟨rfl, hb7⟩
                go_wp2_with fail
                go_ret
                exact ⟨rfl, b5.trans (hb7.mono b5.size)⟩
      · have hx0 : xs = [] := by
          have := HX.out
          rw [if_neg h0] at this
          exact List.map_eq_nil_iff.1 this
        subst hx0
        obtain ⟨t, x, hx2⟩ := HER.out.some_inv h0
        obtain ⟨ao3, cap3, rfl, _, _, _⟩ := HR.out.parts
        clear HX h0 HER
        subst hx2
        go_wp2_with fail
        go_ret
        exact ⟨rfl, b3⟩
    · go_wp2_with fail
      go_ret
      exact ⟨rfl, b1⟩
  · go_wp2_with fail
    go_ret
    exact ⟨rfl, b1⟩
end Go.Proofs.YtkplekkldkmdhaaDoor
