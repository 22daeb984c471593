/- chandlerylaw2.LongRules, OwnRules by their contracts. -/
import Derived.Test.YtpafddeakanopaaGreatDoorMirrorWays
namespace Go.Proofs.YtpafddeakanopaaGreatDoor
open Go Go.RowKit

/-- What LongRules says: 0 for rules that are few and short. -/
def LongPost (l : List RuleB) (w : World) (e : Ending) (w' : World) : Prop := (∃ n : Int, e = .returned (.int .i64 n) ∧ (n = 0 ∨ n = 1) ∧ Hid (n = 0 → l.length ≤ 12 ∧ ∀ r ∈ l, Small r)) ∧ w = w'

set_option maxHeartbeats 1000000 in
set_option maxRecDepth 100000 in
theorem longRules_any (v : Value) (l : List RuleB) (w : World) (hv : RulesRow w v l) :
    Calls Tryz.prog 5 #[v] w (LongPost l w) := by
  obtain ⟨ao, cap, rfl, h1, h2, H3⟩ := hv
  have HM := Lib.hid H3
  clear H3
  go_enter Tryz.func5, Tryz.ntmps5
  by_cases h12 : l.length ≤ 12
  · go_wp2_with fail
    go_loop [3] (fun i => ∃ k : Nat, k ≤ l.length ∧ i = .int .i64 k ∧ Hid (∀ j, (h : j < l.length) → j < k → Small l[j])) (fun i => l.length - (intOf i).toNat)
    case atStart => exact ⟨0, Nat.zero_le _, rfl, fun j _ h => absurd h (Nat.not_lt_zero _)⟩
    case round =>
      obtain ⟨k, hk, rfl, HA⟩ := hrel
      by_cases hlt : k < l.length
      · obtain ⟨b, off, rfl, hbl, hcell⟩ := HM.out k hlt
        obtain ⟨d1, tv, d2, d3⟩ := hcell k hlt
        have HK : Hid (Small l[k] → ∀ j, (h : j < l.length) → j < k + 1 → Small l[j]) := fun hsm j h hj => by
          by_cases e : j = k
          · subst e; exact hsm
          · exact HA.out j h (by omega)
        clear hcell HA
        generalize l[k] = r at d1 d3 HK
        obtain ⟨f, ts⟩ := r
        simp only at d1 d3
        obtain ⟨ao2, cap2, rfl, g1, g2, G3⟩ := d3.parts
        have HG := Lib.hid G3
        clear G3 d3
        by_cases hf : f.size ≤ 120
        · by_cases ht : ts.length ≤ 10
          · go_wp2_with fail
            go_loop [4] (fun i => ∃ m : Nat, m ≤ ts.length ∧ i = .int .i64 m ∧ Hid (∀ j, (h : j < ts.length) → j < m → ts[j].size ≤ 120)) (fun i => ts.length - (intOf i).toNat)
            case atStart => exact ⟨0, Nat.zero_le _, rfl, fun j _ h => absurd h (Nat.not_lt_zero _)⟩
            case round =>
              obtain ⟨m, hm, rfl, HB⟩ := hrel
              by_cases hmt : m < ts.length
              · obtain ⟨b2, off2, rfl, hbl2, hcell2⟩ := HG.out m hmt
                have cl := hcell2 m hmt
                have HC : Hid (ts[m].size ≤ 120 → ∀ j, (h : j < ts.length) → j < m + 1 → ts[j].size ≤ 120) := fun hsm j h hj => by
                  by_cases e : j = m
                  · subst e; exact hsm
                  · exact HB.out j h (by omega)
                clear hcell2 HB
                generalize ts[m] = t at cl HC
                by_cases hz : t.size ≤ 120
                · have HC2 := Lib.hid (HC.out hz)
                  clear HC
                  go_wp2_with fail
                  go_round
                  case rel => exact ⟨m + 1, by omega, by go_num, HC2⟩
                  case measure => simp [intOf]; omega
                · go_wp2_with fail
                  go_ret
                  exact ⟨⟨1, rfl, .inr rfl, fun h => by cases h⟩, rfl⟩
              · obtain rfl : m = ts.length := by omega
                have HK2 := Lib.hid (HK.out ⟨hf, ht, fun t h => by obtain ⟨j, hj, rfl⟩ := List.getElem_of_mem h; exact HB.out j hj hj⟩)
                clear HB HK
                go_wp2_with fail
                go_round
                case rel => exact ⟨k + 1, by omega, by go_num, HK2⟩
                case measure => simp [intOf]; omega
          · go_wp2_with fail
            go_ret
            exact ⟨⟨1, rfl, .inr rfl, fun h => by cases h⟩, rfl⟩
        · go_wp2_with fail
          go_ret
          exact ⟨⟨1, rfl, .inr rfl, fun h => by cases h⟩, rfl⟩
      · obtain rfl : k = l.length := by omega
        have HT : Hid (l.length ≤ 12 ∧ ∀ r ∈ l, Small r) := ⟨h12, fun r h => by obtain ⟨j, hj, rfl⟩ := List.getElem_of_mem h; exact HA.out j hj hj⟩
        clear HA
        go_wp2_with fail
        go_ret
        exact ⟨⟨0, rfl, .inl rfl, fun _ => HT.out⟩, rfl⟩
  · go_wp2_with fail
    go_ret
    exact ⟨⟨1, rfl, .inr rfl, fun h => by cases h⟩, rfl⟩

/-- Rules that the call owns: their row, and each row of theirs. -/
def RulesOwn (w : World) (base : Nat) (v : Value) (l : List RuleB) : Prop :=
  ∃ tvs : List Value, tvs.length = l.length ∧ w.ownsRow base 41 2 v l.length ((l.zip tvs).flatMap fun p => [Value.string p.1.1, p.2]) ∧
    ∀ j, (hj : j < l.length) → ∃ tv, tvs[j]? = some tv ∧ w.ownsRow base 9 1 tv l[j].2.length (l[j].2.map Value.string)
theorem Tryz.infoR : (Tryz.prog.info? 41).map (fun i => (i.zero, i.size, i.bytes)) = some (some (.agg #[.string ⟨#[]⟩, .slice none 0 0]), 2, 40) := by kernel_rfl

theorem RulesOwn.row {w : World} {base : Nat} {v : Value} {l : List RuleB} (h : RulesOwn w base v l) : RulesRow w v l := by
  obtain ⟨tvs, hl, ho, hr⟩ := h
  rcases id ho.2 with ⟨rfl, h0⟩ | ⟨g, cap, cur, rfl, hb, hg, hn, hc, hsz, ht⟩
  · refine ⟨none, 0, by rw [h0], by omega, Nat.zero_le _, fun i hi => by omega⟩
  · refine ⟨some ⟨g, 0, none⟩, cap, rfl, hn, hc, fun i hi => ⟨g, 0, rfl, (Array.getElem?_eq_some_iff.1 hg).1, fun j hj => ?_⟩⟩
    obtain ⟨tv, htv, hrow⟩ := hr j hj
    have hz : (l.zip tvs)[j]? = some (l[j], tv) := by rw [List.getElem?_zip_eq_some]; exact ⟨List.getElem?_eq_getElem hj, htv⟩
    have hzl : j < (l.zip tvs).length := (List.getElem?_eq_some_iff.1 hz).1
    have hz2 : (l.zip tvs)[j] = (l[j], tv) := (List.getElem?_eq_some_iff.1 hz).2
    have e0 := flatMap_at (fun p : RuleB × Value => [Value.string p.1.1, p.2]) 2 (fun _ => rfl) (l.zip tvs) j 0 hzl (by decide)
    have e1 := flatMap_at (fun p : RuleB × Value => [Value.string p.1.1, p.2]) 2 (fun _ => rfl) (l.zip tvs) j 1 hzl (by decide)
    rw [hz2] at e0 e1
    have c0 := ho.cells (g := g) rfl (j * 2 + 0) (.string l[j].1) e0
    have c1 := ho.cells (g := g) rfl (j * 2 + 1) tv e1
    rw [Addr.add_lit] at c0 c1
    refine ⟨by simpa using c0, tv, by simpa [Nat.add_assoc] using c1, RowP.of_row (row_of_own hrow)⟩
theorem grownBy_set (W : World) (b o : Nat) (v : Value) : W.grownBy (W.setCell ⟨b, o, none⟩ v) (some b) :=
  ⟨rfl, rfl, rfl, by simp, fun k _ hk => Below.heap_setCell _ _ _ k (fun e => hk (by rw [e]))⟩
theorem row_shape {w : World} {base : Nat} {e : TypeId} {size : Nat} {v : Value} {n : Nat} {xs : List Value} (h : w.ownsRow base e size v n xs) : ∃ a cap, v = .slice a n cap := by
  obtain ⟨h1, ⟨rfl, rfl⟩ | ⟨g, cap, cur, h3, _⟩⟩ := h
  · exact ⟨_, _, rfl⟩
  · exact ⟨_, _, h3⟩
theorem RulesOwn.ext {w w' : World} {base : Nat} {v : Value} {l : List RuleB} (h : RulesOwn w base v l) (hb : Below w.heap.size w w') : RulesOwn w' base v l := by
  obtain ⟨tvs, hl, ho, hr⟩ := h
  refine ⟨tvs, hl, owns_below ho hb, fun j hj => ?_⟩
  obtain ⟨tv, htv, hrow⟩ := hr j hj
  exact ⟨tv, htv, owns_below hrow hb⟩
theorem RulesOwn.nil (w : World) (base : Nat) : RulesOwn w base (.slice none 0 0) [] := ⟨[], rfl, World.ownsRow_nil _ _ _ _, fun _ hj => absurd hj (Nat.not_lt_zero _)⟩
/-- Rows of two types lie apart. -/
theorem own_apart {w : World} {base base' : Nat} {e e' : TypeId} {size size' n n' : Nat} {v v' : Value} {xs xs' : List Value} (h : w.ownsRow base e size v n xs) (h' : w.ownsRow base' e' size' v' n' xs') (hne : e ≠ e') :
    v.ownBlock = none ∨ v.ownBlock ≠ v'.ownBlock := by
  rcases h.2 with ⟨rfl, _⟩ | ⟨g, cap, cur, rfl, _, hg, _⟩
  · exact .inl rfl
  · refine .inr fun e1 => ?_
    rcases h'.2 with ⟨rfl, _⟩ | ⟨g', cap', cur', rfl, _, hg', _⟩
    · simp [Value.ownBlock] at e1
    · obtain rfl : g = g' := by simpa [Value.ownBlock] using e1
      rw [hg] at hg'
      injection hg' with h1
      injection h1 with _ h2
      exact hne h2
theorem own_not {w : World} {base : Nat} {e t : TypeId} {size n X : Nat} {v : Value} {xs : List Value} {c : Array Value} {fr : Nat × Nat} (h : w.ownsRow base e size v n xs) (hX : w.heap[X]? = some (.cells c t fr)) (hne : e ≠ t) :
    v.ownBlock = none ∨ v.ownBlock ≠ some X := by
  rcases h.2 with ⟨rfl, _⟩ | ⟨g, cap, cur, rfl, _, hg, _⟩
  · exact .inl rfl
  · refine .inr fun e1 => ?_
    obtain rfl : g = X := by simpa [Value.ownBlock] using e1
    rw [hg] at hX
    injection hX with h1
    injection h1 with _ h2
    exact hne h2
/-- One rule more. -/
theorem RulesOwn.snoc {w w' : World} {base : Nat} {o o' tv : Value} {l : List RuleB} {r : RuleB} {tvs : List Value} (h1 : tvs.length = l.length)
    (h2 : w.ownsRow base 41 2 o l.length ((l.zip tvs).flatMap fun p => [Value.string p.1.1, p.2]))
    (h3 : ∀ j, (hj : j < l.length) → ∃ tv, tvs[j]? = some tv ∧ w.ownsRow base 9 1 tv l[j].2.length (l[j].2.map Value.string))
    (hr : w.ownsRow base 9 1 tv r.2.length (r.2.map Value.string))
    (ho : w'.ownsRow base 41 2 o' (l.length + 1) (((l.zip tvs).flatMap fun p => [Value.string p.1.1, p.2]) ++ [.string r.1, tv])) (hg : w.grownBy w' o.ownBlock) : RulesOwn w' base o' (l ++ [r]) := by
  refine ⟨tvs ++ [tv], by simp [h1], ?_, fun j hj => ?_⟩
  · rw [List.zip_append h1.symm, List.flatMap_append, List.length_append]
    simpa using ho
  · by_cases hlt : j < l.length
    · obtain ⟨tvj, e1, e2⟩ := h3 j hlt
      refine ⟨tvj, by rw [List.getElem?_append_left (by omega)]; exact e1, ?_⟩
      rw [List.getElem_append_left hlt]
      exact e2.kept hg (own_apart e2 h2 (by decide))
    · obtain rfl : j = l.length := by simp at hj; omega
      refine ⟨tv, by rw [← h1]; simp, ?_⟩
      rw [List.getElem_append_right (Nat.le_refl _)]
      simp only [Nat.sub_self, List.getElem_cons_zero]
      exact hr.kept hg (own_apart hr h2 (by decide))
theorem heap_new (w : World) (o : Obj) : (w.alloc o).heap[w.heap.size]? = some o := by
  show (w.heap.push o)[w.heap.size]? = some o
  simp

set_option maxHeartbeats 2000000 in
set_option maxRecDepth 100000 in
theorem ownRules_any (v : Value) (l : List RuleB) (w : World) (hn : l.length ≤ 1000) (hs : ∀ r ∈ l, Small r) (hv : RulesRow w v l) :
    Calls Tryz.prog 8 #[v] w fun e w' => (∃ ov, e = .returned ov ∧ Hid (RulesOwn w' w.heap.size ov l)) ∧ Below w.heap.size w w' := by
  obtain ⟨i0, hi0, hz0, hz1, hz2⟩ := info_parts Tryz.infoW
  obtain ⟨i1, hi1, hy0, hy1, hy2⟩ := info_parts Tryz.infoR
  obtain ⟨ao, cap, rfl, h1, h2, H3⟩ := hv
  have HM := Lib.hid H3
  have HS := Lib.hid hs
  clear H3 hs
  go_enter Tryz.func8, Tryz.ntmps8
  go_wp2_with fail
  go_loopw [3, 4, 5, 6] (fun o i _ _ wr => ∃ k : Nat, k ≤ l.length ∧ i = .int .i64 k ∧ Hid (RulesOwn wr w.heap.size o (l.take k)) ∧ Below w.heap.size w wr) (fun _ i _ _ _ => l.length - (intOf i).toNat)
  case atStart => exact ⟨0, Nat.zero_le _, rfl, RulesOwn.nil _ _, Below.refl _ _⟩
  case round =>
    obtain ⟨k, hk, rfl, HO, hb⟩ := hrel
    by_cases hlt : k < l.length
    · obtain ⟨b, off, rfl, hbl, hcell⟩ := HM.out k hlt
      obtain ⟨d1, tv, d2, d3⟩ := hcell k hlt
      have cl1 := (hb.cell (p := ⟨b, off + k * 2, none⟩) hbl).trans d1
      have cl2 := (hb.cell (p := ⟨b, off + k * 2 + 1, none⟩) hbl).trans d2
      have HT := Lib.hid (d3.ext hb)
      have HK : Hid (l.take (k + 1) = l.take k ++ [l[k]]) := by show _ = _; rw [List.take_add_one, List.getElem?_eq_getElem hlt]; rfl
      have HZ := Lib.hid (HS.out l[k] (List.getElem_mem hlt))
      clear hcell d1 d2 d3
      generalize l[k] = r at cl1 HT HK HZ
      obtain ⟨f, ts⟩ := r
      simp only at cl1
      obtain ⟨hf, ht, htz⟩ := HZ.out
      simp only at hf ht
      clear htz
      obtain ⟨ao2, cap2, rfl, g1, g2, g3, g4⟩ := HT.out
      dsimp only at cl2 g1 g4
      cases ao2 with
      | none =>
        obtain rfl := g3 rfl
        have h0 : ts.length = 0 := Nat.le_zero.1 g1
        have hts : ts = [] := List.eq_nil_of_length_eq_zero h0
        subst hts
        simp only [List.length_nil] at cl2
        have bX : Below wr.heap.size wr ((wr.alloc (.cells #[.string f, .slice none 0 0] 41)).alloc (.cells #[.string f, .slice none 0 0] 41)) := ((Below.refl _ wr).alloc (Nat.le_refl _) _).alloc (by simp) _
        have hkl : (l.take k).length = k := by rw [List.length_take]; omega
        obtain ⟨tvs, t1, t2, t3⟩ := HO.out.ext bX
        have T1 := Lib.hid t1; have T3 := Lib.hid t3; have T2 := Lib.hid t2
        rw [hkl] at t2
        have HKL := Lib.hid hkl
        clear t1 t3 hkl
        clear g4 HT
        go_wp2_with (at_builtin; refine wpList_append_own _ rfl _ _ 22 rfl w.heap.size 41 i1 (.agg #[.string ⟨#[]⟩, .slice none 0 0]) 2 40 Tryz.underlying22 hi1 hy0 hy1 hy2 rfl (by decide) _ _ _ rfl t2 ⟨wr.heap.size + 1, 0, none⟩ 1 1 [.string f, .slice none 0 0] rfl rfl ?n1 ?n2 ?n3 ?n4 ?n5 ?_)
        case n2 => first | decide | (intro u hu; simp at hu; rcases hu with rfl | rfl <;> rfl) | simp [Value.oneCell']
        case n3 => rw [maxLen_eq]; omega
        case n4 => omega
        case n5 => have := hb.size; simp; omega
        intro v7 w7 hown7 hgrow7 _
        have hb7 : Below w.heap.size w w7 := (hb.trans (bX.mono hb.size)).grown hgrow7 (by have := hb.size; simp; omega) (fun r e => (t2.lt r e).1)
        have H8 : Hid (RulesOwn w7 w.heap.size v7 (l.take (k + 1))) := by
          show RulesOwn _ _ _ _
          rw [HK.out]
          exact RulesOwn.snoc (r := (f, [])) T1.out T2.out T3.out (World.ownsRow_nil _ _ _ _) (by rw [HKL.out]; exact hown7) hgrow7
        clear hown7 hgrow7 t2
        go_wp2_with fail
        go_roundw
        case rel => exact ⟨k + 1, by omega, by go_num, H8, hb7⟩
        case measure => simp [intOf]; omega
      | some ad =>
        have bA : Below wr.heap.size wr (wr.alloc (.cells #[.string f, .slice (some ad) ts.length cap2] 41)) := (Below.refl _ wr).alloc (Nat.le_refl _) _
        have G4 := Lib.hid g4
        clear g4 HT
        go_wp2_with (at_builtin; refine wpList_append_own _ rfl _ _ 33 rfl w.heap.size 9 i0 (.string ⟨#[]⟩) 1 16 Tryz.underlying33 hi0 hz0 hz1 hz2 rfl (by decide) (.slice none 0 0) 0 [] rfl (World.ownsRow_nil _ _ _ _) ad ts.length cap2 (ts.map Value.string) rfl (by simp) ?c1 ?c2 ?c3 ?c4 ?c5 ?_)
        case c1 =>
          intro j u hj
          rw [List.getElem?_map] at hj
          cases ht2 : ts[j]? with
          | none => rw [ht2] at hj; cases hj
          | some t =>
            rw [ht2] at hj
            obtain rfl := Option.some.inj hj
            obtain ⟨hj2, ht3⟩ := List.getElem?_eq_some_iff.1 ht2
            obtain ⟨b2, off2, e, hbl2, hc2⟩ := G4.out j hj2
            obtain rfl := Option.some.inj e
            rw [Addr.add_lit]
            have := hc2 j hj2
            rw [ht3] at this
            exact (bA.cell (p := ⟨b2, off2 + j, none⟩) hbl2).trans this
        case c2 => intro u hu; obtain ⟨y, _, rfl⟩ := List.mem_map.1 hu; rfl
        case c3 => rw [maxLen_eq]; omega
        case c4 => omega
        case c5 => have := hb.size; simp; omega
        intro v5 w5 hown5 hgrow5 _
        have hr5 : w5.ownsRow w.heap.size 9 1 v5 ts.length (ts.map Value.string) := by simpa using hown5
        have bB : Below wr.heap.size wr w5 := bA.grown hgrow5 (by simp) (fun r e => by simp [Value.ownBlock] at e)
        have hX : w5.heap[wr.heap.size]? = some (.cells #[.string f, .slice (some ad) ts.length cap2] 41 (0, 0)) := (hgrow5.block wr.heap.size (by simp) (by simp [Value.ownBlock])).trans (heap_new wr _)
        obtain ⟨a5, cap5, rfl⟩ := row_shape hr5
        have x0 : w5.cell? ⟨wr.heap.size, 0, none⟩ = some (.string f) := by simp [World.cell?, hX]
        have x1 : w5.cell? ⟨wr.heap.size, 1, none⟩ = some (.slice (some ad) ts.length cap2) := by simp [World.cell?, hX]
        have xf : ∀ n, w5.frozen? ⟨wr.heap.size, n, none⟩ = false := fun n => by simp [World.frozen?, hX]
        have xf1 := xf 1
        have gs := grownBy_set w5 wr.heap.size 1 (.slice a5 ts.length cap5)
        have hr6 : (w5.setCell ⟨wr.heap.size, 1, none⟩ (.slice a5 ts.length cap5)).ownsRow w.heap.size 9 1 (.slice a5 ts.length cap5) ts.length (ts.map Value.string) := hr5.kept gs (own_not hr5 hX (by decide))
        have bC : Below wr.heap.size wr ((w5.setCell ⟨wr.heap.size, 1, none⟩ (.slice a5 ts.length cap5)).alloc (.cells #[.string f, .slice a5 ts.length cap5] 41)) :=
          (bB.setCell (p := ⟨wr.heap.size, 1, none⟩) (Nat.le_refl _) _).alloc (by have := bB.size; simp; omega) _
        have HR8 := Lib.hid (hr6.alloc (.cells #[.string f, .slice a5 ts.length cap5] 41))
        have hkl : (l.take k).length = k := by rw [List.length_take]; omega
        obtain ⟨tvs, t1, t2, t3⟩ := HO.out.ext bC
        have T1 := Lib.hid t1; have T3 := Lib.hid t3; have T2 := Lib.hid t2
        rw [hkl] at t2
        have HKL := Lib.hid hkl
        have HBC := Lib.hid bC
        have hb5 : w.heap.size ≤ w5.heap.size := Nat.le_trans hb.size bB.size
        clear hown5 hgrow5 xf t1 t3 hkl gs hr6 hr5 bC bB hX
        go_wp2_with (at_builtin; refine wpList_append_own _ rfl _ _ 22 rfl w.heap.size 41 i1 (.agg #[.string ⟨#[]⟩, .slice none 0 0]) 2 40 Tryz.underlying22 hi1 hy0 hy1 hy2 rfl (by decide) _ _ _ rfl t2 ⟨w5.heap.size, 0, none⟩ 1 1 [.string f, .slice a5 ts.length cap5] rfl rfl ?m1 ?m2 ?m3 ?m4 ?m5 ?_)
        case m1 =>
          intro j u hj
          match j, hj with
          | 0, hj => simp at hj; subst hj; rw [Addr.add_lit, World.cell?_alloc_at _ _ _ _ (by simp)]; simp
          | 1, hj => simp at hj; subst hj; rw [Addr.add_lit, World.cell?_alloc_at _ _ _ _ (by simp)]; simp
        case m2 => intro u hu; simp at hu; rcases hu with rfl | rfl <;> rfl
        case m3 => rw [maxLen_eq]; omega
        case m4 => omega
        case m5 => simp; omega
        intro v7 w7 hown7 hgrow7 _
        have hb7 : Below w.heap.size w w7 := (hb.trans (HBC.out.mono hb.size)).grown hgrow7 (by simp; omega) (fun r e => (t2.lt r e).1)
        have H8 : Hid (RulesOwn w7 w.heap.size v7 (l.take (k + 1))) := by
          show RulesOwn _ _ _ _
          rw [HK.out]
          exact RulesOwn.snoc (r := (f, ts)) T1.out T2.out T3.out HR8.out (by rw [HKL.out]; exact hown7) hgrow7
        clear hown7 hgrow7 t2
        go_wp2_with fail
        go_roundw
        case rel => exact ⟨k + 1, by omega, by go_num, H8, hb7⟩
        case measure => simp [intOf]; omega
    · obtain rfl : k = l.length := by omega
      have HO2 : Hid (RulesOwn wr w.heap.size u3 l) := by have := HO.out; rwa [List.take_length] at this
      go_wp2_with fail
      go_ret
      exact ⟨⟨_, rfl, HO2⟩, hb⟩
theorem own_mono {w : World} {base base' : Nat} {e : TypeId} {size : Nat} {v : Value} {n : Nat} {xs : List Value} (h : w.ownsRow base e size v n xs) (hb : base' ≤ base) : w.ownsRow base' e size v n xs := by
  obtain ⟨h1, h2 | ⟨g, cap, cur, h3, h4, h5⟩⟩ := h
  · exact ⟨h1, .inl h2⟩
  · exact ⟨h1, .inr ⟨g, cap, cur, h3, Nat.le_trans hb h4, h5⟩⟩
/-- Rules, and rules behind them. -/
theorem RulesOwn.app {w w' : World} {base base2 : Nat} {o o' : Value} {l l2 : List RuleB} {tvs tvs2 : List Value} (hbase : base ≤ base2) (h1 : tvs.length = l.length)
    (h2 : w.ownsRow base 41 2 o l.length ((l.zip tvs).flatMap fun p => [Value.string p.1.1, p.2]))
    (h3 : ∀ j, (hj : j < l.length) → ∃ tv, tvs[j]? = some tv ∧ w.ownsRow base 9 1 tv l[j].2.length (l[j].2.map Value.string))
    (k1 : tvs2.length = l2.length)
    (k3 : ∀ j, (hj : j < l2.length) → ∃ tv, tvs2[j]? = some tv ∧ w.ownsRow base2 9 1 tv l2[j].2.length (l2[j].2.map Value.string))
    (ho : w'.ownsRow base 41 2 o' (l.length + l2.length) (((l.zip tvs).flatMap fun p => [Value.string p.1.1, p.2]) ++ ((l2.zip tvs2).flatMap fun p => [Value.string p.1.1, p.2]))) (hg : w.grownBy w' o.ownBlock) : RulesOwn w' base o' (l ++ l2) := by
  refine ⟨tvs ++ tvs2, by simp [h1, k1], ?_, fun j hj => ?_⟩
  · rw [List.zip_append h1.symm, List.flatMap_append, List.length_append]
    exact ho
  · by_cases hlt : j < l.length
    · obtain ⟨tvj, e1, e2⟩ := h3 j hlt
      refine ⟨tvj, by rw [List.getElem?_append_left (by omega)]; exact e1, ?_⟩
      rw [List.getElem_append_left hlt]
      exact e2.kept hg (own_apart e2 h2 (by decide))
    · rw [List.length_append] at hj
      obtain ⟨tvj, e1, e2⟩ := k3 (j - l.length) (by omega)
      refine ⟨tvj, by rw [List.getElem?_append_right (by omega), h1]; exact e1, ?_⟩
      rw [List.getElem_append_right (by omega)]
      exact (own_mono e2 hbase).kept hg (own_apart e2 h2 (by decide))

theorem own_succ {w : World} {base : Nat} {e : TypeId} {size k : Nat} {v : Value} {xs : List Value} (h : w.ownsRow base e size v (k + 1) xs) : ∃ g cap, v = .slice (some ⟨g, 0, none⟩) (k + 1) cap := by
  obtain ⟨h1, ⟨_, h2⟩ | ⟨g, cap, cur, h3, _⟩⟩ := h
  · omega
  · exact ⟨_, _, h3⟩
abbrev flatR (l : List RuleB) (tvs : List Value) : List Value := (l.zip tvs).flatMap fun p => [Value.string p.1.1, p.2]
/-- What an append of rules to rules wants, and what comes of it. -/
theorem app_ready {W8 W9 : World} {base m : Nat} {o1 o2 : Value} {l1 l2 : List RuleB} (O1 : RulesOwn W8 base o1 l1) (O2 : RulesOwn W9 W8.heap.size o2 l2) (hb : Below W8.heap.size W8 W9) (hm : l2.length = m + 1) (hbase : base ≤ W8.heap.size) :
    ∃ tvs1 tvs2 g2 cap2, o2 = .slice (some ⟨g2, 0, none⟩) (m + 1) cap2 ∧ W9.ownsRow base 41 2 o1 l1.length (flatR l1 tvs1) ∧ (flatR l2 tvs2).length = (m + 1) * 2 ∧
      (∀ j u, (flatR l2 tvs2)[j]? = some u → W9.cell? ((⟨g2, 0, none⟩ : Addr).add j) = some u) ∧ (∀ u ∈ flatR l2 tvs2, u.oneCell' = true) ∧
      (∀ v' w', w'.ownsRow base 41 2 v' (l1.length + (m + 1)) (flatR l1 tvs1 ++ flatR l2 tvs2) → W9.grownBy w' o1.ownBlock → RulesOwn w' base v' (l1 ++ l2)) := by
  obtain ⟨tvs1, t1, t2, t3⟩ := O1.ext hb
  obtain ⟨tvs2, u1, u2, u3⟩ := O2
  have u2' := u2
  rw [hm] at u2'
  obtain ⟨g2, cap2, rfl⟩ := own_succ u2'
  refine ⟨tvs1, tvs2, g2, cap2, rfl, t2, by have := u2'.1; exact this, fun j u h => u2'.cells (g := g2) rfl j u h, ?_, fun v' w' ho hg => ?_⟩
  · intro u hu
    obtain ⟨p, hp, hu2⟩ := List.mem_flatMap.1 hu
    rcases List.mem_cons.1 hu2 with rfl | hu3
    · rfl
    · obtain rfl := List.mem_singleton.1 hu3
      obtain ⟨j, hj, rfl⟩ := List.getElem_of_mem hp
      rw [List.length_zip] at hj
      obtain ⟨tv, e1, e2⟩ := u3 j (by omega)
      have e3 : (l2.zip tvs2)[j].2 = tv := by
        rw [List.getElem_zip]
        rw [List.getElem?_eq_getElem (by omega)] at e1
        exact Option.some.inj e1
      rw [e3]
      obtain ⟨a, c, rfl⟩ := row_shape e2
      rfl
  · exact RulesOwn.app hbase t1 t2 t3 u1 u3 (by rw [hm]; exact ho) hg

theorem own_shape {w : World} {base n : Nat} {v : Value} {l : List RuleB} (h : RulesOwn w base v l) (hl : l.length = n) : ∃ a c, v = .slice a n c ∧ n ≤ c := by
  subst hl
  obtain ⟨tvs, _, h2, _⟩ := h
  obtain ⟨h1, ⟨rfl, h0⟩ | ⟨g, cap, cur, rfl, _, _, h6, _⟩⟩ := h2
  · exact ⟨none, 0, by rw [h0], by omega⟩
  · exact ⟨_, _, rfl, h6⟩
set_option maxRecDepth 100000 in
theorem ownRules_none (a : Option Addr) (c : Nat) (w : World) : Calls Tryz.prog 8 #[.slice a 0 c] w fun e w' => e = .returned (.slice none 0 0) ∧ Below w.heap.size w w' := by
  go_enter Tryz.func8, Tryz.ntmps8
  go_wp2_with fail
  go_loopw [3, 4] (fun o i wr => o = .slice none 0 0 ∧ i = .int .i64 0 ∧ Below w.heap.size w wr) (fun _ _ _ => 0)
  case atStart => exact ⟨rfl, rfl, Below.refl _ _⟩
  case round =>
    obtain ⟨rfl, rfl, hb⟩ := hrel
    go_wp2_with fail
    go_ret
    exact ⟨rfl, hb⟩
end Go.Proofs.YtpafddeakanopaaGreatDoor
