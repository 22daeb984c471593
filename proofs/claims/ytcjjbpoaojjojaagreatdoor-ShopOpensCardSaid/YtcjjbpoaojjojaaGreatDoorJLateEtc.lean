/- The reference's ruled: the contract. The reference's Held: Drop: the contract. The reference's again: the contract. shop.Rules: the contract. The reference's SameRules at the same rules: the contract. The reference's NewShop, OpenShop: contracts. chandlerylaw3.asShop at a shop and its model: the contract. Shop's Want and Unwant: contracts. Shop's Want: the contract. The lock laws' own small words: locked, longWants. chandlerylaw3.shopped: a closed fact. Texts handed in: a row of strings, as an argument; opened. chandlerylaw3.ShopOpens: the walk. -/
import Derived.Test.YtcjjbpoaojjojaaGreatDoorJShopTurnsEtc
import Derived.Test.YtcjjbpoaojjojaaGreatDoorJRefMirror
import Derived.Test.YtcjjbpoaojjojaaGreatDoorJRowedEtc
import Derived.Test.YtcjjbpoaojjojaaGreatDoorJRefHeldUp
import Derived.Test.YtcjjbpoaojjojaaGreatDoorJPathedEtc
import Derived.Test.YtcjjbpoaojjojaaGreatDoorJRefWants
import Derived.Test.YtcjjbpoaojjojaaGreatDoorJRefLockFaultEtc
import Derived.Test.YtcjjbpoaojjojaaGreatDoorJSummed
import Derived.Test.YtcjjbpoaojjojaaGreatDoorJShopNewEtc
import Derived.Test.YtcjjbpoaojjojaaGreatDoorJMirrorUp
import Derived.Test.YtcjjbpoaojjojaaGreatDoorJRefLinkUp
import Derived.Deep.RegionHeld3
import Derived.Test.YtcjjbpoaojjojaaGreatDoorJToldEtc
import Derived.Test.YtcjjbpoaojjojaaGreatDoorJLockUpEtc
import Derived.Test.YtcjjbpoaojjojaaGreatDoorJHeldEnds
import Derived.Test.YtcjjbpoaojjojaaGreatDoorJWantAll
import Derived.Test.YtcjjbpoaojjojaaGreatDoorJWantPlains
import Derived.Test.YtcjjbpoaojjojaaGreatDoorJNetEnds
import Derived.Deep.Strs
import Derived.Deep.SlicePairs
import Derived.WideShapes
import Derived.DataReads
import Derived.Test.YtcjjbpoaojjojaaGreatDoorJFetches
import Derived.Test.YtcjjbpoaojjojaaGreatDoorJFetchPlains
namespace Go.Proofs.YtcjjbpoaojjojaaGreatDoor
open Go Go.RowKit

theorem kw_other (T : TypeId) (h1 : T ≠ 108) (cs : Array Value) (fz : Nat × Nat) : ¬ RShopRow (.cells cs T fz) := fun ⟨_, _, h⟩ => by injection h with _ h _; exact h1 h
theorem kq_other (T : TypeId) (h1 : T ≠ 128) (cs : Array Value) (fz : Nat × Nat) : ¬ RHeldRow (.cells cs T fz) := fun ⟨_, _, h⟩ => by injection h with _ h _; exact h1 h
/-- The reference's shop, as OpenShop makes it. -/
structure RAgAt (W0 w : World) (B hb sb : Nat) (np tp rv lv : Value) (rl : List RuleB) (S : ShopS) : Prop where
  hsb : B ≤ sb
  shop : w.heap[sb]? = some (.cells #[np, rv, lv, .pointer (some ⟨hb, 0, none⟩), tp] 108 (0, 0))
  rules : RRules w B rv rl
  ruled : rl.map ruleOf = S.rules
  lock : WOwn w B lv S.lock
  held : RHeldIs W0 w B hb S.held
def RAgIs (W0 w : World) (B hb sb : Nat) (np tp : Value) (S : ShopS) : Prop := ∃ rv lv rl, RAgAt W0 w B hb sb np tp rv lv rl S
section
variable {W0 w w' w2 : World} {B hb sb : Nat} {np tp rv lv : Value} {rl : List RuleB} {S : ShopS}
theorem RRules.below {v : Value} {l : List RuleB} (h : RRules w B v l) (hb2 : Below w.heap.size w w') : RRules w' B v l :=
  h.keeps (K := fun _ => False) (B2 := w.heap.size) (Keeps.of hb2 (Nat.le_refl _)) (fun _ _ h => h) (fun _ _ h => h)
theorem RRules.nil (w : World) (B : Nat) : RRules w B (.slice none 0 0) [] := ⟨[], rfl, World.ownsRow_nil _ _ _ _, fun _ hj => absurd hj (Nat.not_lt_zero _)⟩
theorem RAgAt.below (h : RAgAt W0 w B hb sb np tp rv lv rl S) (hb2 : Below w.heap.size w w') : RAgAt W0 w' B hb sb np tp rv lv rl S where
  hsb := h.hsb
  shop := by rw [hb2.block sb (Array.getElem?_eq_some_iff.1 h.shop).1]; exact h.shop
  rules := h.rules.below hb2
  ruled := h.ruled
  lock := h.lock.ext hb2
  held := h.held.below hb2
theorem RAgAt.keeps {K : Obj → Prop} {B2 : Nat} (h : RAgAt W0 w B hb sb np tp rv lv rl S) (hk : Keeps K B2 w w') (hf : RefFree K) : RAgAt W0 w' B hb sb np tp rv lv rl S where
  hsb := h.hsb
  shop := hk.keep sb _ h.shop (hf.shop _ _)
  rules := h.rules.keeps hk hf.rule hf.str
  ruled := h.ruled
  lock := hk.owns h.lock (fun cs => hf.want cs _)
  held := h.held.keeps hk hf.held (fun cs => hf.tree cs _) (fun cs => hf.file cs _)
theorem RAgAt.turnHeld {hh : HeldB} (h : RAgAt W0 w B hb sb np tp rv lv rl S) (hk : Keeps RHeldRow B w w') (ht : RHeldIs W0 w' B hb hh) : RAgAt W0 w' B hb sb np tp rv lv rl { S with held := hh } where
  hsb := h.hsb
  shop := hk.keep sb _ h.shop (kq_other _ (by decide) _ _)
  rules := h.rules.keeps hk (kq_other _ (by decide)) (kq_other _ (by decide))
  ruled := h.ruled
  lock := hk.owns h.lock (fun cs => kq_other _ (by decide) cs _)
  held := ht
theorem rag_set (h : w.heap[sb]? = some (.cells #[np, rv, lv, .pointer (some ⟨hb, 0, none⟩), tp] 108 (0, 0))) (x : Value) :
    (w.setCell ⟨sb, 1, none⟩ x).heap[sb]? = some (.cells #[np, x, lv, .pointer (some ⟨hb, 0, none⟩), tp] 108 (0, 0)) ∧
    (w.setCell ⟨sb, 2, none⟩ x).heap[sb]? = some (.cells #[np, rv, x, .pointer (some ⟨hb, 0, none⟩), tp] 108 (0, 0)) :=
  ⟨by simp [World.setCell, Array.getElem?_modify, h], by simp [World.setCell, Array.getElem?_modify, h]⟩
theorem RAgAt.store (h : RAgAt W0 w B hb sb np tp rv lv rl S) (j : Nat) (x : Value) (hBw : B ≤ w.heap.size) : Keeps RShopRow B w (w.setCell ⟨sb, j, none⟩ x) :=
  Keeps.one (grown_set w sb j x) h.hsb hBw h.shop ⟨_, _, rfl⟩
theorem RAgAt.setLock {l : List WantB} {x : Value} (h : RAgAt W0 w B hb sb np tp rv lv rl S) (hx : WOwn w B x l) (hBw : B ≤ w.heap.size) : RAgAt W0 (w.setCell ⟨sb, 2, none⟩ x) B hb sb np tp rv x rl { S with lock := l } := by
  have hk := h.store 2 x hBw
  exact ⟨h.hsb, (rag_set h.shop x).2, h.rules.keeps hk (kw_other _ (by decide)) (kw_other _ (by decide)), h.ruled, hk.owns hx (fun cs => kw_other _ (by decide) cs _),
    h.held.keeps hk (kw_other _ (by decide)) (fun cs => kw_other _ (by decide) cs _) (fun cs => kw_other _ (by decide) cs _)⟩
theorem RAgAt.setRules {l : List RuleB} {x : Value} (h : RAgAt W0 w B hb sb np tp rv lv rl S) (hx : RRules w B x l) (hBw : B ≤ w.heap.size) : RAgAt W0 (w.setCell ⟨sb, 1, none⟩ x) B hb sb np tp x lv l { S with rules := l.map ruleOf } := by
  have hk := h.store 1 x hBw
  exact ⟨h.hsb, (rag_set h.shop x).1, hx.keeps hk (kw_other _ (by decide)) (kw_other _ (by decide)), rfl, hk.owns h.lock (fun cs => kw_other _ (by decide) cs _),
    h.held.keeps hk (kw_other _ (by decide)) (fun cs => kw_other _ (by decide) cs _) (fun cs => kw_other _ (by decide) cs _)⟩
theorem RAgAt.cells (h : RAgAt W0 w B hb sb np tp rv lv rl S) : w.cell? ⟨sb, 0, none⟩ = some np ∧ w.cell? ⟨sb, 1, none⟩ = some rv ∧ w.cell? ⟨sb, 2, none⟩ = some lv ∧ w.cell? ⟨sb, 3, none⟩ = some (.pointer (some ⟨hb, 0, none⟩)) ∧ w.cell? ⟨sb, 4, none⟩ = some tp :=
  ⟨by rw [Lib.cell_of_heap h.shop]; rfl, by rw [Lib.cell_of_heap h.shop]; rfl, by rw [Lib.cell_of_heap h.shop]; rfl, by rw [Lib.cell_of_heap h.shop]; rfl, by rw [Lib.cell_of_heap h.shop]; rfl⟩
theorem RAgAt.froz (h : RAgAt W0 w B hb sb np tp rv lv rl S) (j : Nat) : w.frozen? ⟨sb, j, none⟩ = false := Lib.frozen_of_heap h.shop j
end
theorem SPart.cell {w : World} {B : Nat} {v : Value} {zs : List ByteArray} (h : SPart w B v zs) : v.oneCell' = true := by
  rcases h with ⟨_, a, c, rfl, _⟩ | ⟨g, off, cap, cur, rfl, _⟩ <;> rfl
theorem SPart.low {w : World} {B B2 : Nat} {v : Value} {zs : List ByteArray} (h : SPart w B v zs) (hB : B2 ≤ B) : SPart w B2 v zs := by
  rcases h with h | ⟨g, off, cap, cur, e, q1, q2⟩
  · exact .inl h
  · exact .inr ⟨g, off, cap, cur, e, Nat.le_trans hB q1, q2⟩
theorem SPart.below {w w' : World} {B : Nat} {v : Value} {zs : List ByteArray} (h : SPart w B v zs) (hb : Below w.heap.size w w') : SPart w' B v zs :=
  h.keeps (K := fun _ => False) (B2 := w.heap.size) (Keeps.of hb (Nat.le_refl _)) (fun _ _ h => h)
theorem SPart.of_own {w : World} {B : Nat} {v : Value} {zs : List ByteArray} (h : w.ownsRow B 9 1 v zs.length (zs.flatMap encStr)) : SPart w B v zs := by
  rcases h.2 with ⟨rfl, h0⟩ | ⟨g, cap, cur, rfl, hb, hg, hn, hc, hsz, ht⟩
  · exact .inl ⟨List.eq_nil_of_length_eq_zero h0, none, 0, rfl, Nat.zero_le _, fun _ => rfl⟩
  · refine .inr ⟨g, 0, cap, cur, rfl, hb, hg, hn, hc, fun i hi => ?_⟩
    have e := flatMap_at encStr 1 (fun _ => rfl) zs i 0 hi (by decide)
    have c := h.cells (g := g) rfl (i * 1 + 0) (.string zs[i]) e
    rw [Addr.add_lit, Lib.cell_of_heap hg] at c
    simpa using c
/-- A piece's first text and its tail, as operations give them. -/
theorem SPart.behind {w : World} {B : Nat} {v : Value} {z : ByteArray} {zt : List ByteArray} (h : SPart w B v (z :: zt)) : ∃ g off cap cur, v = .slice (some ⟨g, off, none⟩) (zt.length + 1) cap ∧ B ≤ g ∧ w.heap[g]? = some (.cells cur 9 (0, 0)) ∧ cur[off]? = some (.string z) ∧
    ∃ ta, (∀ W : World, (Instr.slice 22 (.slice (some ⟨g, off, none⟩) (zt.length + 1) cap) (some (.int .i64 1)) none none).run Tryz.prog W = .ok (.slice ta zt.length (cap - 1)) W) ∧ SPart w B (.slice ta zt.length (cap - 1)) zt := by
  rcases h with ⟨h0, _⟩ | ⟨g, off, cap, cur, rfl, q1, q2, q3, q4, q5⟩
  · cases h0
  · rw [List.length_cons] at q3
    refine ⟨g, off, cap, cur, rfl, q1, q2, by have := q5 0 (by simp); simpa using this, if cap = 1 then some ⟨g, off, none⟩ else some ⟨g, off + 1, none⟩, fun W => ?_, ?_⟩
    · have h := run_slice_l (P := Tryz.prog) W 22 (some ⟨g, off, none⟩) (zt.length + 1) cap (by kernel_rfl) .i64 ((1 : Nat) : Int) (by omega) (by omega)
      refine Eq.trans h ?_
      by_cases h1 : cap = 1 <;> simp [sliced, go_sem, h1]
    · by_cases ht : zt = []
      · subst ht
        refine .inl ⟨rfl, _, _, rfl, by omega, fun h => ?_⟩
        split at h <;> cases h
      · have hl : 0 < zt.length := List.length_pos_iff.2 ht
        rw [if_neg (by omega)]
        refine .inr ⟨g, off + 1, cap - 1, cur, rfl, q1, q2, by omega, by omega, fun i hi => ?_⟩
        have := q5 (i + 1) (by simp; omega)
        rw [show off + 1 + i = off + (i + 1) by omega]
        simpa using this
theorem RRules.snoc {w : World} {B : Nat} {o' tv : Value} {l : List RuleB} {r : RuleB} {tvs : List Value} (h1 : tvs.length = l.length)
    (h3 : ∀ j, (hj : j < l.length) → ∃ tv, tvs[j]? = some tv ∧ SPart w B tv l[j].2) (hr : SPart w B tv r.2)
    (ho : w.ownsRow B 58 2 o' (l.length + 1) (flatR l tvs ++ [.string r.1, tv])) : RRules w B o' (l ++ [r]) := by
  refine ⟨tvs ++ [tv], by simp [h1], ?_, fun j hj => ?_⟩
  · rw [List.zip_append h1.symm, List.flatMap_append, List.length_append]
    simpa using ho
  · by_cases hlt : j < l.length
    · obtain ⟨tvj, e1, e2⟩ := h3 j hlt
      refine ⟨tvj, by rw [List.getElem?_append_left (by omega)]; exact e1, ?_⟩
      rw [List.getElem_append_left hlt]
      exact e2
    · obtain rfl : j = l.length := by simp at hj; omega
      refine ⟨tv, by rw [← h1]; simp, ?_⟩
      rw [List.getElem_append_right (Nat.le_refl _)]
      simp only [Nat.sub_self, List.getElem_cons_zero]
      exact hr
theorem flatR_cells {w : World} {B : Nat} {l : List RuleB} {tvs : List Value} (h1 : tvs.length = l.length) (h3 : ∀ j, (hj : j < l.length) → ∃ tv, tvs[j]? = some tv ∧ SPart w B tv l[j].2) : ∀ u ∈ flatR l tvs, u.oneCell' = true := by
  intro u hu
  obtain ⟨p, hp, hu2⟩ := List.mem_flatMap.1 hu
  rcases List.mem_cons.1 hu2 with rfl | hu3
  · rfl
  · obtain rfl := List.mem_singleton.1 hu3
    obtain ⟨j, hj, rfl⟩ := List.getElem_of_mem hp
    rw [List.length_zip] at hj
    obtain ⟨tv, e1, e2⟩ := h3 j (by omega)
    have e3 : (l.zip tvs)[j].2 = tv := by
      rw [List.getElem_zip]
      rw [List.getElem?_eq_getElem (by omega)] at e1
      exact Option.some.inj e1
    rw [e3]
    exact e2.cell
theorem Srcs.owned {w : World} {base : Nat} {e : TypeId} {size n : Nat} {v : Value} {xs : List Value} (h : w.ownsRow base e size v n xs) (h1 : ∀ u ∈ xs, u.oneCell' = true) : Srcs w size v n xs := by
  rcases h.2 with ⟨rfl, rfl⟩ | ⟨g, cap, cur, rfl, _⟩
  · have := h.1
    rw [Nat.zero_mul] at this
    exact .inl ⟨rfl, rfl, List.eq_nil_of_length_eq_zero this⟩
  · exact .inr ⟨_, cap, rfl, h.1, fun j u hj => h.cells (g := g) rfl j u hj, h1⟩

theorem field_code (c a : Value) (w : World) : (Instr.field 38 (.agg #[c, a]) 0).run Tryz.prog w = .ok c w := by kernel_rfl
/-- What the reference's records hand back, and leave. -/
def RAgPost (W0 : World) (B hb sb : Nat) (np tp : Value) (r : Nat × ShopS) (w : World) (e : Ending) (w' : World) : Prop :=
  e = .returned (.int .i64 r.1) ∧ Hid (r.1 = 0 → RAgIs W0 w' B hb sb np tp r.2) ∧ Below B w w'

set_option maxHeartbeats 4000000 in
set_option maxRecDepth 100000 in
theorem refRuled_any {W0 : World} (B hb sb : Nat) (p q : Option Addr) (S : ShopS) (v : Value) (z0 : ByteArray) (zt : List ByteArray) (w : World) (h : RAgIs W0 w B hb sb (.pointer p) (.pointer q) S) (hok : OpOk S) (hsz : ∀ z ∈ z0 :: zt, z.size ≤ 30000) (hzn : zt.length + 1 ≤ 30000) (hst : SPart w B v (z0 :: zt)) (hBw : B ≤ w.heap.size) :
    Calls Tryz.prog 100 #[.pointer (some ⟨sb, 0, none⟩), v] w (RAgPost W0 B hb sb (.pointer p) (.pointer q) (ruledS S ((z0 :: zt).map bl)) w) := by
  obtain ⟨i0, hi0, hz0, hz1, hz2⟩ := info_parts Tryz.infoR
  obtain ⟨rv, lv, rl, hA⟩ := h
  obtain ⟨hfew, hsm⟩ := rules_small (l := rl) (by rw [hA.ruled]; exact hok.rules)
  obtain ⟨g, off, cap, cur, rfl, hgB, hgw, hg0, ta, hsl, hsp⟩ := hst.behind
  obtain ⟨n, hn⟩ : ∃ n, zt.length = n := ⟨_, rfl⟩
  obtain ⟨c0, c1, c2, c3, c4⟩ := hA.cells
  obtain ⟨tvs, t1, t2, t3⟩ := hA.rules
  have hcl := flatR_cells t1 t3
  have hsrc := Srcs.owned t2 hcl
  have HRU := Lib.hid hA.ruled
  have HA := Lib.hid hA
  have HSP := Lib.hid hsp
  have HSM := Lib.hid hsm
  have HSZ := Lib.hid hsz
  have HT1 := Lib.hid t1
  have HT3 := Lib.hid t3
  have hgl : g < w.heap.size := (Array.getElem?_eq_some_iff.1 hgw).1
  have j0 : w.cell? ⟨g, off, none⟩ = some (.string z0) := by rw [Lib.cell_of_heap hgw]; exact hg0
  have K0 : Hid (∀ W, Below w.heap.size w W → W.cell? ⟨g, off, none⟩ = some (.string z0)) := fun W hW => (hW.cell (p := ⟨g, off, none⟩) hgl).trans j0
  have hlt : (0 : Int) < ((zt.length + 1 : Nat) : Int) := by omega
  have hlt0 : 0 < zt.length + 1 := by omega
  clear hA hsp hsm hsz t1 t3 hgw hg0 hcl hst hok j0 c0 c2 c3 c4 hn
  go_enter Tryz.func100, Tryz.ntmps100
  go_wp2_with (at_builtin; refine wpList_append_src _ rfl _ _ 105 rfl w.heap.size 58 i0 (.agg #[.string ⟨#[]⟩, .slice none 0 0]) 2 40 Tryz.underlying105 hi0 hz0 hz1 hz2 rfl (by decide) (.slice none 0 0) 0 [] rfl (World.ownsRow_nil _ _ _ _) rv rl.length (flatR rl tvs) rfl hsrc ?c1 ?c2 ?c3 ?_)
  case c1 => rw [maxLen_eq]; omega
  case c2 => omega
  case c3 => exact Nat.le_refl _
  intro v1 w1 hown hgrow
  have hb1 : Below w.heap.size w w1 := (Below.refl _ w).grown hgrow (Nat.le_refl _) (fun k hk => by simp [Value.ownBlock] at hk)
  have hO1 : w1.ownsRow w.heap.size 58 2 v1 rl.length (flatR rl tvs) := by simpa using hown
  have HO1 := Lib.hid hO1
  have j1 := K0.out w1 hb1
  clear hown hgrow hO1 t2 c1 hsrc
  obtain ⟨va, vc, rfl⟩ := row_shape HO1.out
  go_wp2_with fail
  have hdr : Below w1.heap.size w1 w1.drew := below_drewN _ _ 1
  have HAL : Hid (Below w1.heap.size w1 (w1.drew.alloc (.cells #[.string z0, .slice ta zt.length (cap - 1)] 58))) := hdr.alloc (Nat.le_refl _) _
  have HOA : Hid ((w1.drew.alloc (.cells #[.string z0, .slice ta zt.length (cap - 1)] 58)).ownsRow w.heap.size 58 2 (.slice va rl.length vc) rl.length (flatR rl tvs)) := owns_below HO1.out HAL.out
  have hwa : w.heap.size ≤ (w1.drew.alloc (.cells #[.string z0, .slice ta zt.length (cap - 1)] 58)).heap.size := Nat.le_trans hb1.size HAL.out.size
  have HNW := Lib.hid (rule_new w1.drew z0 (.slice ta zt.length (cap - 1)))
  have HB1 := Lib.hid hb1
  clear hdr hb1
  go_region_law ((refine step_append_rule (by rfl) _ _ (by rfl) w.heap.size (.slice va rl.length vc) rl.length (flatR rl tvs) (by rfl) HOA.out z0 (.slice ta zt.length (cap - 1)) rfl w1.heap.size (by rfl) HNW.out.1 HNW.out.2 (by omega) hwa ?_); (intro v8 w8 HO8 HG8))
  all_goals
    obtain ⟨a8, k8, rfl⟩ := row_shape HO8.out
    have hb8 : Below w.heap.size w w8 := (HB1.out.trans (HAL.out.mono HB1.out.size)).grown HG8.out hwa (fun k hk => (HO1.out.lt k hk).1)
    have hR8 : RRules w8 B (.slice a8 (rl.length + 1) k8) (rl ++ [(z0, zt)]) := RRules.snoc (r := (z0, zt)) HT1.out (fun j hj => by
      obtain ⟨tv, h1, h2⟩ := HT3.out j hj
      exact ⟨tv, h1, h2.below hb8⟩) (HSP.out.below hb8) (own_mono HO8.out hBw)
    have HFA : ∀ r ∈ rl ++ [(z0, zt)], Fair r := fun r hr => by
      rcases List.mem_append.1 hr with hr | hr
      · exact (HSM.out r hr).fair
      · obtain rfl := List.mem_singleton.1 hr
        exact ⟨HSZ.out z0 (by simp), by show zt.length ≤ 30000; omega, fun t ht => HSZ.out t (by simp [ht])⟩
    have C := refRulesFault_any _ (rl ++ [(z0, zt)]) w8 (by simp; omega) HFA hR8.row
    have h1 := @ruledS_no S rl (z0, zt) HRU.out
    have h2 := @ruledS_ok S rl (z0, zt) HRU.out
    unfold RFPost at C
    obtain ⟨er, her⟩ : ∃ er, rulesEr ((rl ++ [(z0, zt)]).map ruleOf) = er := ⟨_, rfl⟩
    rw [her] at C h1 h2
    obtain ⟨c, hc⟩ : ∃ c, er.code = c := ⟨_, rfl⟩
    obtain ⟨a, ha⟩ : ∃ a : Int, er.at?.getD (-1) = a := ⟨_, rfl⟩
    rw [show erA er = #[.int .i64 c, .int .i64 a] by unfold erA; rw [hc, ha]] at C
    rw [hc] at h1 h2
    have HC := Lib.hid C
    have hfc := fun W : World => field_code (.int .i64 (c : Int)) (.int .i64 a) W
    have H1 := Lib.hid h1
    have H2 := Lib.hid h2
    have HR9 := Lib.hid hR8
    have HB8 := Lib.hid hb8
    clear her hc ha C h1 h2 HFA hR8 hb8 HO8 HG8 HAL HOA HNW HT1 HT3 hsl K0 j1 HO1
    go_wp2_with fail
    refine HC.out.mono ?_
    clear HC
    rintro e w9 ⟨rfl, hb9⟩
    have hb9w := HB8.out.trans (hb9.mono HB8.out.size)
    have HA9 := Lib.hid (HA.out.below hb9w)
    have hB9 : B ≤ w9.heap.size := Nat.le_trans hBw hb9w.size
    have HA10 := Lib.hid (HA9.out.setRules (HR9.out.below hb9) hB9)
    have f1 := HA9.out.froz 1
    have c1 := HA9.out.cells.2.1
    have hbz := hb9w.mono hBw
    clear hb9 hb9w
    by_cases hz : c = 0
    · subst hz
      have hfc0 := fun W : World => field_code (.int .i64 0) (.int .i64 a) W
      have HY := Lib.hid (H2.out rfl)
      have hbs : Below B w (w9.setCell ⟨sb, 1, none⟩ (.slice a8 (rl.length + 1) k8)) := hbz.setCell (p := ⟨sb, 1, none⟩) HA.out.hsb _
      clear H1 H2
      go_wp2_with fail
      go_ret
      show RAgPost W0 B hb sb (.pointer p) (.pointer q) (ruledS S (bl z0 :: zt.map bl)) w _ _
      rw [HY.out]
      exact ⟨rfl, fun _ => ⟨_, _, _, HA10.out⟩, hbs⟩
    · have HY := Lib.hid (H1.out hz)
      have HZ := Lib.hid hz
      have hne : ((c : Int) == 0) = false := by rw [beq_eq_false_iff_ne]; omega
      clear hz H1 H2 f1 c1
      go_wp2_with fail
      go_ret
      show RAgPost W0 B hb sb (.pointer p) (.pointer q) (ruledS S (bl z0 :: zt.map bl)) w _ _
      rw [HY.out]
      exact ⟨rfl, fun h => absurd h HZ.out, hbz⟩
end Go.Proofs.YtcjjbpoaojjojaaGreatDoor

namespace Go.Proofs.YtcjjbpoaojjojaaGreatDoor
open Go Go.RowKit Go.Maps

def RHDropPost (W0 : World) (B b : Nat) (r : Nat × HeldB) (w : World) (e : Ending) (w' : World) : Prop := e = .returned (.int .i64 r.1) ∧ RHeldIs W0 w' B b r.2 ∧ Keeps RHeldRow B w w'

set_option maxRecDepth 100000 in
theorem trees_behind (b n sc k : Nat) (hk : k ≤ n) (hs : n ≤ sc) : ∃ o c, (∀ W : World, (Instr.slice 126 (.slice (some ⟨b, 0, none⟩) n sc) (some (.int .i64 (k : Int))) none none).run Tryz.prog W = .ok (.slice (some ⟨b, o, none⟩) (n - k) c) W) ∧ (n - k = 0 ∨ o = k * 2) := by
  by_cases h : sc = k
  · refine ⟨0, 0, fun W => ?_, .inl (by omega)⟩
    rw [run_slice_l W 126 (some ⟨b, 0, none⟩) n sc (by kernel_rfl) .i64 (k : Int) (by omega) (by omega)]
    simp [sliced, go_sem, h]
  · refine ⟨k * 2, sc - k, fun W => ?_, .inr rfl⟩
    rw [run_slice_l W 126 (some ⟨b, 0, none⟩) n sc (by kernel_rfl) .i64 (k : Int) (by omega) (by omega)]
    simp [sliced, go_sem, h]
set_option maxHeartbeats 2000000 in
set_option maxRecDepth 100000 in
theorem refHDrop_any {W0 : World} (B b : Nat) (hh : HeldB) (n : Int) (w : World) (hi : RHeldIs W0 w B b hh) (hn : hh.trees.length ≤ 1000) (hBw : B ≤ w.heap.size) :
    Calls Tryz.prog 107 #[.pointer (some ⟨b, 0, none⟩), .int .i64 n] w (RHDropPost W0 B b (dropH hh n) w) := by
  obtain ⟨i0, hi0, hz0, hz1, hz2⟩ := info_parts Tryz.infoTrees
  have C := Lib.hid (refHFind_any W0 B b hh n w hi hn)
  have HI := Lib.hid hi
  obtain ⟨lv, vs, hA, hV⟩ := hi
  have HX := Lib.hid hA
  have HVS := Lib.hid hV
  obtain ⟨r0, r1, r2⟩ := rheld_ready hA.blk
  have hvl := hV.len
  obtain ⟨ao, cap, rfl, hlc, hlm, _, H3⟩ := trees_parts hA.row
  have HM := Lib.hid H3
  clear hA hV H3
  go_enter Tryz.func107, Tryz.ntmps107
  go_wp2_with fail
  refine C.out.mono ?_
  clear C
  rintro e w1 ⟨rfl, hw1⟩
  have hw1' := hw1.symm
  subst hw1'
  rcases hix : ixOf n hh.sums with _ | k
  · rw [show ixInt none = -1 from rfl]
    have HR : Hid (dropH hh n = (6, hh)) := by show _ = _; unfold dropH; rw [hix]
    clear hix
    go_wp2_with fail
    go_ret
    rw [HR.out]
    exact ⟨rfl, HI.out, Keeps.refl _ _ _⟩
  · rw [show ixInt (some k) = (k : Int) from rfl]
    have HR : Hid (dropH hh n = (0, { hh with trees := hh.trees.eraseIdx k })) := by show _ = _; unfold dropH; rw [hix]
    have hk : k < hh.trees.length := by have hks := (ixOf_some hix).1; rw [sums_len] at hks; exact hks
    obtain ⟨g0, rfl, _⟩ := HM.out 0 (by omega)
    obtain ⟨o1, c1, hsl, ho1⟩ := trees_behind g0 hh.trees.length cap (k + 1) (by omega) (by omega)
    have hrow : w.ownsRow B 130 2 (.slice (some ⟨g0, 0, none⟩) hh.trees.length cap) hh.trees.length (vs.flatMap encTree) := by have q := HX.out.row; rwa [hvl] at q
    have HS1 : Hid (Srcs w 2 (.slice (some ⟨g0, 0, none⟩) k cap) k ((vs.take k).flatMap encTree)) := by
      have := trees_src hrow HVS.out.slices hvl 0 k 0 cap (by omega) (.inr (by omega))
      rwa [List.drop_zero] at this
    have HROW := Lib.hid hrow
    have hsl2 : ∀ W : World, (Instr.slice 126 (.slice (some ⟨g0, 0, none⟩) hh.trees.length cap) (some (.int .i64 ((k : Int) + 1))) none none).run Tryz.prog W = .ok (.slice (some ⟨g0, o1, none⟩) (hh.trees.length - (k + 1)) c1) W := hsl
    have hm1 : 0 + k ≤ maxLen := by rw [maxLen_eq]; omega
    have hm2 : (0 + k) * 32 ≤ 140737488355328 := by omega
    obtain ⟨us, hus⟩ : ∃ us, vs.take k = us := ⟨_, rfl⟩
    have HUL : Hid (us.length = k) := by show _ = _; rw [← hus, List.length_take]; omega
    have HUS := Lib.hid hus
    rw [hus] at HS1
    clear hix hsl hus hrow
    go_wp2_with (at_builtin; refine wpList_append_src _ rfl _ _ 126 rfl w.heap.size 130 i0 (.agg #[.int .i64 0, .slice none 0 0]) 2 32 Tryz.underlying126 hi0 hz0 hz1 hz2 rfl (by decide) (.slice none 0 0) 0 [] rfl (World.ownsRow_nil _ _ _ _) _ k _ rfl HS1.out hm1 hm2 (Nat.le_refl _) ?_)
    intro v8 w8 hown8 hgrow8
    have b8 : Below w.heap.size w w8 := (Below.refl _ _).grown hgrow8 (Nat.le_refl _) (fun r e => by cases e)
    obtain ⟨o8, c8, hv8⟩ : ∃ ao cap, v8 = .slice ao k cap := by
      rcases hown8.2 with ⟨e, h0⟩ | ⟨g', cap', _, e, _⟩
      · exact ⟨none, 0, by rw [e, h0]⟩
      · exact ⟨_, cap', e⟩
    subst hv8
    have HO8 := Lib.hid hown8
    have hbl2 : b < w.heap.size := (Array.getElem?_eq_some_iff.1 HX.out.blk).1
    have t1 := (b8.cell (p := ⟨b, 1, none⟩) hbl2).trans r1
    have t2 := (b8.frozen (p := ⟨b, 1, none⟩) hbl2).trans r2
    have B8 := Lib.hid b8
    have hwl : w.heap.size ≤ w8.heap.size := b8.size
    obtain ⟨m, hmm⟩ : ∃ m, hh.trees.length - (k + 1) = m := ⟨_, rfl⟩
    have HSRC2 : Hid (Srcs w8 2 (.slice (some ⟨g0, o1, none⟩) m c1) m ((vs.drop (k + 1)).flatMap encTree)) := by
      have := trees_src (owns_below HROW.out b8) HVS.out.slices hvl (k + 1) m o1 c1 (by omega) (by rw [← hmm]; exact ho1)
      rwa [List.take_of_length_le (by rw [List.length_drop]; omega)] at this
    rw [hmm] at hsl2
    obtain ⟨ds, hds⟩ : ∃ ds, vs.drop (k + 1) = ds := ⟨_, rfl⟩
    have HDL : Hid (ds.length = m) := by show _ = _; rw [← hds, List.length_drop]; omega
    have HER : Hid (vs.eraseIdx k = us ++ ds) := by show _ = _; rw [List.eraseIdx_eq_take_drop_succ, HUS.out, hds]
    rw [hds] at HSRC2
    have hm3 : k + m ≤ maxLen := by rw [maxLen_eq]; omega
    have hm4 : (k + m) * 32 ≤ 140737488355328 := by omega
    clear hown8 hgrow8 b8 hds
    go_wp2_with (at_builtin; refine wpList_append_src _ rfl _ _ 126 rfl w.heap.size 130 i0 (.agg #[.int .i64 0, .slice none 0 0]) 2 32 Tryz.underlying126 hi0 hz0 hz1 hz2 rfl (by decide) _ k _ rfl HO8.out _ m _ rfl HSRC2.out hm3 hm4 hwl ?_)
    intro v9 w9 hown9 hgrow9
    have b9 : Below w.heap.size w w9 := B8.out.grown hgrow9 hwl (fun r e => (World.ownsRow.lt HO8.out r e).1)
    have hown9' : w9.ownsRow B 130 2 v9 (vs.eraseIdx k).length ((vs.eraseIdx k).flatMap encTree) := by
      rw [HER.out, List.length_append, HUL.out, HDL.out, List.flatMap_append]
      exact ownsRow_low hown9 hBw
    obtain ⟨hRH, hK9⟩ := rheld_store (W0 := W0) (w4 := w9) (h' := { hh with trees := hh.trees.eraseIdx k }) HX.out b9 hBw hown9' (Below.vs (HVS.out.erase k) b9) rfl
    have HRH := Lib.hid hRH
    have HK9 := Lib.hid hK9
    obtain ⟨ao9, n9, c9, hv9⟩ : ∃ ao n cap, v9 = .slice ao n cap := by
      rcases hown9.2 with ⟨e, h0⟩ | ⟨g', cap', _, e, _⟩
      · exact ⟨none, 0, 0, e⟩
      · exact ⟨_, _, cap', e⟩
    have t3 := (b9.cell (p := ⟨b, 1, none⟩) hbl2).trans r1
    have t4 := (b9.frozen (p := ⟨b, 1, none⟩) hbl2).trans r2
    subst hv9
    clear hRH hK9 hown9 hown9' hgrow9 b9 HO8 HSRC2 HS1
    go_wp2_with fail
    go_ret
    rw [HR.out]
    exact ⟨rfl, HRH.out, HK9.out⟩
end Go.Proofs.YtcjjbpoaojjojaaGreatDoor

namespace Go.Proofs.YtcjjbpoaojjojaaGreatDoor
open Go Go.RowKit

theorem words_cases (l : List UInt8) : (cutL 32 l = [l] ∧ (Lib.cut l [32]).2.2 = false) ∨ ∃ a r, l = a ++ 32 :: r ∧ Lib.cut l [32] = (a, r, true) ∧ cutL 32 l = a :: cutL 32 r := by
  rcases Classical.em ((32 : UInt8) ∈ l) with h | h
  · obtain ⟨a, r, e, hn⟩ := List.eq_append_cons_of_mem h
    exact .inr ⟨a, r, e, by rw [e]; exact cut_hit hn, by rw [e, cutL_app, cutL_no hn]; rfl⟩
  · exact .inl ⟨cutL_no h, by rw [cut_miss h]⟩
theorem FaultAt.wown {w : World} {B g : Nat} {v : Value} {l : List WantB} {c a : Int} (h : WOwn w B v l) (hg : FaultAt w g c a) (x y : Value) : WOwn ((w.setCell ⟨g, 0, none⟩ x).setCell ⟨g, 1, none⟩ y) B v l :=
  (fault_keeps hg x y).owns h (fun cs ⟨_, _, h⟩ => by injection h with _ h _; exact absurd h (by decide))
theorem size_pos_of_cutL {c : UInt8} {l : List UInt8} {zs : List ByteArray} (h : zs.map bl = cutL c l) : 0 < zs.length := by
  have h2 := congrArg List.length h
  rw [List.length_map] at h2
  have := cutL_pos c l
  omega

set_option maxHeartbeats 8000000 in
set_option maxRecDepth 100000 in
theorem refAgain_any {W0 : World} (B hb sb : Nat) (p q : Option Addr) (S : ShopS) (s : ByteArray) (w : World) (h : RAgIs W0 w B hb sb (.pointer p) (.pointer q) S) (hok : OpOk S) (hhk : HeldOk S.held) (hs : s.size ≤ 20000) (hBw : B ≤ w.heap.size) (hW : Below W0.heap.size W0 w) (hWB : W0.heap.size ≤ B) :
    Calls Tryz.prog 38 #[.pointer (some ⟨sb, 0, none⟩), .string s] w (RAgPost W0 B hb sb (.pointer p) (.pointer q) (againS S (bl s)) w) := by
  have HA0 := Lib.hid h
  have HOK := Lib.hid hok
  have HHK := Lib.hid hhk
  have HW0 := Lib.hid hW
  have hn40 : S.held.trees.length ≤ 1000 := by have h1 := hhk.few; have h2 := hhk.len; omega
  have C := Lib.hid (refCut_own s 32 w (by omega))
  clear h hok hhk hW
  go_enter Tryz.func38, Tryz.ntmps38
  go_wp2_with fail
  refine C.out.mono ?_
  clear C
  rintro e w1 ⟨v, zs, rfl, HV, HZ, hzl, hb1⟩
  have hbB := hb1.mono hBw
  have hB1 : B ≤ w1.heap.size := Nat.le_trans hBw hb1.size
  obtain ⟨rv, lv, rl, hA⟩ := HA0.out
  have HA1 := Lib.hid (hA.below hb1)
  have HW1 := Lib.hid (HW0.out.trans (hbB.mono hWB))
  have hsl := bl_length s
  clear hA HA0 hb1
  have hsp0 : SPart w1 w.heap.size v zs := SPart.of_own HV.out
  rcases words_cases (bl s) with ⟨h1, h2⟩ | ⟨a, r, hsa, hcut, hcl⟩
  · have hz1 : zs.length = 1 := by
      have := congrArg List.length HZ.out
      rw [List.length_map, h1] at this
      exact this
    have HY : Hid (againS S (bl s) = (1, S)) := againS_no h2
    obtain ⟨va, vc, rfl⟩ : ∃ va vc, v = .slice va 1 vc := by
      obtain ⟨va, vc, h⟩ := row_shape HV.out
      rw [hz1] at h
      exact ⟨va, vc, h⟩
    clear h1 h2 hz1 HZ HV hsp0
    go_wp2_with fail
    go_ret
    rw [HY.out]
    exact ⟨rfl, fun h => absurd (show (1 : Nat) = 0 from h) (by decide), hbB⟩
  · rw [hcl] at HZ
    have hp0 : 0 < zs.length := size_pos_of_cutL (c := 32) (l := bl s) (by rw [hcl]; exact HZ.out)
    obtain ⟨z0, zt, rfl⟩ : ∃ z0 zt, zs = z0 :: zt := match zs, hp0 with | z :: t, _ => ⟨z, t, rfl⟩
    have hz0 : bl z0 = a := by have := HZ.out; rw [List.map_cons] at this; exact (List.cons.injEq .. |>.mp this).1
    have hzt : zt.map bl = cutL 32 r := by have := HZ.out; rw [List.map_cons] at this; exact (List.cons.injEq .. |>.mp this).2
    have hy0 := size_pos_of_cutL hzt
    obtain ⟨b, hb0, hbs⟩ : ∃ b : ByteArray, bl b = r ∧ s.extract (z0.size + 1) s.size = b := by
      refine ⟨_, ?_, rfl⟩
      rw [blExtract, hsa, ← hz0]
      have h1 : (bl z0 ++ 32 :: r).drop (z0.size + 1) = r := by
        rw [show z0.size + 1 = (bl z0 ++ [32]).length by rw [List.length_append, bl_length]; rfl, show bl z0 ++ 32 :: r = (bl z0 ++ [32]) ++ r by simp, List.drop_left]
      rw [h1]
      refine List.take_of_length_le ?_
      rw [hsa, ← hz0, List.length_append, List.length_cons, bl_length] at hsl
      omega
    have hbsz : b.size ≤ 20000 := by
      have h1 := bl_length b
      rw [hb0] at h1
      rw [hsa, List.length_append, List.length_cons] at hsl
      omega
    have hzs : z0.size + 1 ≤ s.size := by
      rw [hsa, ← hz0, List.length_append, List.length_cons, bl_length] at hsl
      omega
    have HY0 : Hid (againS S (bl s) = agW S (bl z0) (bl b)) := by show _ = _; rw [againS_is hcut, hz0, hb0]
    have hzt2 : zt.map bl = cutL 32 (bl b) := by rw [hb0]; exact hzt
    have HZT := Lib.hid hzt2
    have HZS : Hid (∀ z ∈ zt, z.size ≤ 30000) := fun z hz => by
      have h1 : bl z ∈ cutL 32 (bl b) := by rw [← hzt2]; exact List.mem_map.2 ⟨z, hz, rfl⟩
      have := cutL_size 32 (bl b) _ h1
      rw [bl_length, bl_length] at this
      omega
    obtain ⟨g, off, cap, cur, rfl, hgB, hgw, hg0, ta, hsl2, hsp⟩ := hsp0.behind
    obtain ⟨zl, hzl2⟩ : ∃ zl, zt.length = zl := ⟨_, rfl⟩
    obtain ⟨cq, hcq⟩ : ∃ cq, cap - 1 = cq := ⟨_, rfl⟩
    rw [hzl2, hcq] at hsl2 hsp
    have hsp2 := hsp.low hBw
    rw [hzl2]
    have HSP := Lib.hid hsp2
    have j0 : w1.cell? ⟨g, off, none⟩ = some (.string z0) := by rw [Lib.cell_of_heap hgw]; exact hg0
    have sl := slice_from s (z0.size + 1) (z0.size + 1) hzs rfl
    rw [hbs] at sl
    have hlt2 : ¬ ((zl + 1 : Nat) : Int) < 2 := by omega
    have hlt0 : (0 : Int) < ((zl + 1 : Nat) : Int) := by omega
    obtain ⟨c0, c1, c2, c3, c4⟩ := HA1.out.cells
    have f2 := HA1.out.froz 2
    have q1 := word_eqb1 z0
    have q2 := word_eqb2 z0
    have q3 := word_eqb3 z0
    have q4 := word_eqb4 z0
    have q5 := word_eqb5 z0
    have hztl : zt.length + 1 ≤ 30000 := by rw [List.length_cons] at hzl; omega
    clear hcl hcut hsa hz0 hzt hb0 hbs hzt2 hsp0 hgw hg0 hsp hsp2 HZ HV hsl hgB hzl hcq
    by_cases h1 : bl z0 = wRule
    · rw [decide_eq_true h1] at q1
      have HY : Hid (againS S (bl s) = ruledS S (zt.map bl)) := by show _ = _; rw [HY0.out, h1, HZT.out]; exact agW_rule S (bl b)
      obtain ⟨y0, yt, rfl⟩ : ∃ y0 yt, zt = y0 :: yt := match zt, hy0 with | z :: t, _ => ⟨z, t, rfl⟩
      have C := Lib.hid (refRuled_any (W0 := W0) B hb sb p q S _ y0 yt w1 ⟨_, _, _, HA1.out⟩ HOK.out HZS.out (by rw [List.length_cons] at hztl; omega) HSP.out hB1)
      clear q2 q3 q4 q5 h1 HY0 c0 c1 c2 c3 c4
      go_wp2_with fail
      refine C.out.mono ?_
      clear C
      rintro e w3 ⟨rfl, HP, hb3⟩
      have hbz := hbB.trans hb3
      clear hb3
      go_wp2_with fail
      go_ret
      rw [HY.out]
      exact ⟨rfl, HP, hbz⟩
    rw [decide_eq_false h1] at q1
    by_cases h2 : bl z0 = wWant
    · rw [decide_eq_true h2] at q2
      have HY := Lib.hid (HY0.out.trans ((congrArg (fun k => agW S k (bl b)) h2).trans (agW_want S (bl b))))
      have C := refReadWant_any b w1 (by omega)
      have hr := @readW_right (bl b)
      obtain ⟨r, hrr⟩ : ∃ r, readW (bl b) = r := ⟨_, rfl⟩
      unfold RWReadPost at C
      rw [hrr] at C hr HY
      obtain ⟨c, y⟩ := r
      dsimp only at C hr HY
      have HC := Lib.hid C
      have HR := Lib.hid hr
      clear C hr hrr q3 q4 q5 h1 h2 HY0
      go_wp2_with fail
      refine HC.out.mono ?_
      clear HC
      rintro e w2 ⟨rfl, hb2⟩
      rw [show wV y = .agg #[.string y.name, .string y.url, .string y.kind, .int .i64 y.strip, .int .i64 y.sum] from rfl]
      obtain ⟨pf, hpf⟩ : ∃ pf, w2.heap.size = pf := ⟨_, rfl⟩
      obtain ⟨wa, hwa⟩ : ∃ wa, w2.alloc (.cells #[.string y.name, .string y.url, .string y.kind, .int .i64 y.strip, .int .i64 y.sum] 60) = wa := ⟨_, rfl⟩
      have hal : Below w2.heap.size w2 wa := by rw [← hwa]; exact (Below.refl _ _).alloc (Nat.le_refl _) _
      have BX := Lib.hid (show WBox wa pf y by rw [← hwa, ← hpf]; exact WBox.new w2 y)
      have HPF := Lib.hid hpf
      have HWA2 := Lib.hid hwa
      have hba := hb2.trans (hal.mono hb2.size)
      have hBa := hba.mono hB1
      have HAa := Lib.hid (HA1.out.below hba)
      have hBwa : B ≤ wa.heap.size := Nat.le_trans hB1 hba.size
      clear c0 c1 c2 c3 c4 f2 hal hpf hwa hb2
      obtain ⟨c0, c1, c2, c3, c4⟩ := HAa.out.cells
      go_upto_region 10 with fail
      rw [HWA2.out, HPF.out]
      cases c with
      | succ c =>
        have HY2 : Hid (againS S (bl s) = (1, S)) := by show _ = _; rw [HY.out, if_pos (Nat.succ_ne_zero _)]
        have hbz := hbB.trans hBa
        have hpos : (0 : Int) < ((c + 1 : Nat) : Int) := by omega
        go_wp2_with fail
        go_ret
        rw [HY2.out]
        exact ⟨rfl, fun h => absurd (show (1 : Nat) = 0 from h) (by decide), hbz⟩
      | zero =>
        have HY2 : Hid (againS S (bl s) = ((setLk S.lock y).1.code, { S with lock := (setLk S.lock y).2 })) := by show _ = _; rw [HY.out, if_neg (by simp)]
        obtain ⟨er, l2, hr⟩ : ∃ er l2, setLk S.lock y = (er, l2) := ⟨_, _, rfl⟩
        rw [hr] at HY2
        dsimp only at HY2
        obtain ⟨k2, hk2⟩ : ∃ k, er.code = k := ⟨_, rfl⟩
        obtain ⟨a2, ha2⟩ : ∃ a : Int, er.at?.getD (-1) = a := ⟨_, rfl⟩
        rw [hk2] at HY2
        have HSC : Hid (∀ W, Below wa.heap.size wa W → Calls Tryz.prog 102 #[lv, .agg #[.string y.name, .string y.url, .string y.kind, .int .i64 y.strip, .int .i64 y.sum]] W fun e w' => (∃ v, e = .returned (.tuple #[v, .agg #[.int .i64 k2, .int .i64 a2]]) ∧ Hid (WOwn w' wa.heap.size v l2)) ∧ Below W.heap.size W w' ∧ Below wa.heap.size wa w') := fun W hW => by
          have := refSetWant_any lv S.lock y W (HAa.out.below hW).lock.arg (by have := HOK.out.lock.few; omega) HOK.out.lock.small (small_want (HR.out rfl))
          rw [hr] at this
          refine this.mono ?_
          rintro e w' ⟨⟨v, rfl, hO⟩, hb⟩
          exact ⟨⟨v, by dsimp only; unfold erA; rw [hk2, ha2], WOwn.low hO.out hW.size⟩, hb, hW.trans (hb.mono hW.size)⟩
        have K0 : Hid (∀ W, Below wa.heap.size wa W → (W.cell? ⟨sb, 2, none⟩ = some lv ∧ W.cell? ⟨pf, 0, none⟩ = some (.string y.name) ∧ W.cell? ⟨pf, 1, none⟩ = some (.string y.url) ∧ W.cell? ⟨pf, 2, none⟩ = some (.string y.kind) ∧ W.cell? ⟨pf, 3, none⟩ = some (.int .i64 y.strip) ∧ W.cell? ⟨pf, 4, none⟩ = some (.int .i64 y.sum))) := fun W hW => ⟨(HAa.out.below hW).cells.2.2.1, (BX.out.ext hW).cells⟩
        clear HY HR hr hk2 ha2
        have HB0 := Lib.hid (below_drewN wa.heap.size wa 1)
        have HB1 : Hid (Below wa.heap.size wa ((wa.drewN 1).alloc (.cells #[.int .i64 0, .int .i64 0] 38))) := (below_drewN wa.heap.size wa 1).alloc (Nat.le_refl _) _
        have FW : Hid (FaultAt ((wa.drewN 1).alloc (.cells #[.int .i64 0, .int .i64 0] 38)) wa.heap.size 0 0) := FaultAt.new (wa.drewN 1) 0 0
        go_upto_region 12 with fail
        go_cut [9, 10] from 47 to 54 (fun ov pv wx => ∃ pb, pv = .pointer (some ⟨pb, 0, none⟩) ∧ Hid (FaultAt wx pb k2 a2) ∧ Hid (WOwn wx wa.heap.size ov l2) ∧ Hid (Below wa.heap.size wa wx))
        case first =>
          go_region_held3 (fun W : World => W.cell? ⟨sb, 2, none⟩ = some lv ∧ W.cell? ⟨pf, 0, none⟩ = some (.string y.name) ∧ W.cell? ⟨pf, 1, none⟩ = some (.string y.url) ∧ W.cell? ⟨pf, 2, none⟩ = some (.string y.kind) ∧ W.cell? ⟨pf, 3, none⟩ = some (.int .i64 y.strip) ∧ W.cell? ⟨pf, 4, none⟩ = some (.int .i64 y.sum)) (first | exact K0.out _ HB0.out | exact K0.out _ HB1.out | exact K0.out _ BZ | exact K0.out _ hb3a | exact K0.out _ (hb3a.alloc hb3a.size _))
            (first
              | (go_at_call 102; refine (HSC.out _ HB0.out).mono ?_; rintro e w3 ⟨⟨ov, rfl, HO3⟩, hb3, hb3a⟩)
              | (go_at_call 102; refine (HSC.out _ HB1.out).mono ?_; rintro e w3 ⟨⟨ov, rfl, HO3⟩, hb3, hb3a⟩; have FX := Lib.hid (FW.out.ext hb3); obtain ⟨z0', z1', z2', z3'⟩ := FX.out.cells; have BZ := hb3a.trans (fault_end FX.out k2 a2 wa.heap.size (Nat.le_refl _)).2.2; have HOZ := FaultAt.wown HO3.out FX.out (.int .i64 k2) (.int .i64 a2)))
          all_goals (go_wp2_with fail; go_meet)
          all_goals first
            | exact ⟨_, rfl, FX.out.store _ _, HOZ, BZ⟩
            | exact ⟨_, rfl, FaultAt.new w3 _ _, WOwn.ext HO3.out ((Below.refl _ _).alloc (Nat.le_refl _) _), hb3a.alloc hb3a.size _⟩
        case rest =>
          obtain ⟨pb, rfl, FX, HO3, HB3⟩ := hcut
          obtain ⟨oa, oc, rfl⟩ := WOwn.shape HO3.out
          clear HSC K0 HB0 HB1 FW c0 c1 c2 c3 c4
          have HA3 := Lib.hid (HAa.out.below HB3.out)
          have hB3 : B ≤ wc.heap.size := Nat.le_trans hBwa HB3.out.size
          have HA4 := Lib.hid (HA3.out.setLock (WOwn.low HO3.out hBwa) hB3)
          obtain ⟨c0, c1, c2, c3, c4⟩ := HA3.out.cells
          have f2 := HA3.out.froz 2
          obtain ⟨x0, x1, _, _⟩ := FX.out.cells
          have hne : pb ≠ sb := by
            rintro rfl
            obtain ⟨n, hn⟩ := FX.out.cell_int 0 _ c0
            cases hn
          have y0 : ∀ u : Value, (wc.setCell ⟨sb, 2, none⟩ u).cell? ⟨pb, 0, none⟩ = some (.int .i64 k2) := fun u => by
            rw [World.cell?_of_block (w := wc) (a := ⟨pb, 0, none⟩) (Below.heap_setCell _ _ _ _ hne)]; exact x0
          have hbz : Below B w (wc.setCell ⟨sb, 2, none⟩ (.slice oa l2.length oc)) := (((hbB.trans hBa)).trans (HB3.out.mono hBwa)).setCell (p := ⟨sb, 2, none⟩) HA3.out.hsb _
          clear FX HO3 c1 c3 c4 x0 x1 hne
          go_wp2_with fail
          go_ret
          rw [HY2.out]
          exact ⟨rfl, fun _ => ⟨_, _, _, HA4.out⟩, hbz⟩
    rw [decide_eq_false h2] at q2
    by_cases h3 : bl z0 = wUnwant
    · rw [decide_eq_true h3] at q3
      have HY : Hid (againS S (bl s) = ((dropLk S.lock b).1.code, { S with lock := (dropLk S.lock b).2 })) := by show _ = _; rw [HY0.out, h3, agW_unwant, bytes_bl]
      have C := refDropWant_any lv S.lock b w1 HA1.out.lock.arg (by have := HOK.out.lock.few; omega) HOK.out.lock.small
      obtain ⟨er, l2, hr⟩ : ∃ er l2, dropLk S.lock b = (er, l2) := ⟨_, _, rfl⟩
      rw [hr] at C HY
      obtain ⟨k2, hk2⟩ : ∃ k, er.code = k := ⟨_, rfl⟩
      obtain ⟨a2, ha2⟩ : ∃ a : Int, er.at?.getD (-1) = a := ⟨_, rfl⟩
      unfold RSetPost at C
      dsimp only at C HY
      rw [show erA er = #[.int .i64 k2, .int .i64 a2] by unfold erA; rw [hk2, ha2]] at C
      rw [hk2] at HY
      have HC := Lib.hid C
      clear C hr hk2 ha2 q4 q5 h1 h2 h3 HY0
      go_wp2_with fail
      refine HC.out.mono ?_
      clear HC c0 c1 c2 c3 c4 f2
      rintro e w3 ⟨⟨v1, rfl, HO⟩, hb3⟩
      obtain ⟨oa, oc, rfl⟩ := WOwn.shape HO.out
      obtain ⟨pb, hpb⟩ : ∃ pb, w3.heap.size = pb := ⟨_, rfl⟩
      obtain ⟨wc, hwc⟩ : ∃ wc, w3.alloc (.cells #[.int .i64 k2, .int .i64 a2] 38) = wc := ⟨_, rfl⟩
      have FX := Lib.hid (show FaultAt wc pb k2 a2 by rw [← hwc, ← hpb]; exact FaultAt.new w3 _ _)
      have hal : Below w3.heap.size w3 wc := by rw [← hwc]; exact (Below.refl _ _).alloc (Nat.le_refl _) _
      have hb4 := hb3.trans (hal.mono hb3.size)
      have HA3 := Lib.hid (HA1.out.below hb4)
      have HO3 : Hid (WOwn wc w1.heap.size (.slice oa l2.length oc) l2) := WOwn.ext HO.out hal
      have HPB := Lib.hid hpb
      have HWC := Lib.hid hwc
      have hB3 : B ≤ wc.heap.size := Nat.le_trans hB1 hb4.size
      have HA4 := Lib.hid (HA3.out.setLock (WOwn.low HO3.out hB1) hB3)
      obtain ⟨c0, c1, c2, c3, c4⟩ := HA3.out.cells
      have f2 := HA3.out.froz 2
      obtain ⟨x0, x1, _, _⟩ := FX.out.cells
      have hne : pb ≠ sb := by
        rintro rfl
        obtain ⟨n, hn⟩ := FX.out.cell_int 0 _ c0
        cases hn
      have y0 : ∀ u : Value, (wc.setCell ⟨sb, 2, none⟩ u).cell? ⟨pb, 0, none⟩ = some (.int .i64 k2) := fun u => by
        rw [World.cell?_of_block (w := wc) (a := ⟨pb, 0, none⟩) (Below.heap_setCell _ _ _ _ hne)]; exact x0
      have hbz : Below B w (wc.setCell ⟨sb, 2, none⟩ (.slice oa l2.length oc)) := (hbB.trans (hb4.mono hB1)).setCell (p := ⟨sb, 2, none⟩) HA3.out.hsb _
      clear FX HO HO3 c1 c3 c4 x0 x1 hne hpb hwc hal hb3 hb4
      go_upto_region 17 with fail
      rw [HWC.out, HPB.out]
      go_wp2_with fail
      go_ret
      rw [HY.out]
      exact ⟨rfl, fun _ => ⟨_, _, _, HA4.out⟩, hbz⟩
    rw [decide_eq_false h3] at q3
    by_cases h4 : bl z0 = wHold
    · rw [decide_eq_true h4] at q4
      have HY := Lib.hid (HY0.out.trans ((congrArg (fun k => agW S k (bl b)) h4).trans (agW_hold S (bl b))))
      have C := refReadPack_own b w1 (by omega)
      have hzz := @read_right (bl b)
      unfold RReadOwn at C
      obtain ⟨er, her⟩ : ∃ er, readEr (bl b) = er := ⟨_, rfl⟩
      obtain ⟨tr, htr⟩ : ∃ tr, readT (bl b) = tr := ⟨_, rfl⟩
      rw [her, htr] at C HY
      rw [her, htr] at hzz
      obtain ⟨k2, hk2⟩ : ∃ k, er.code = k := ⟨_, rfl⟩
      obtain ⟨a2, ha2⟩ : ∃ a : Int, er.at?.getD (-1) = a := ⟨_, rfl⟩
      rw [show erA er = #[.int .i64 k2, .int .i64 a2] by unfold erA; rw [hk2, ha2]] at C
      rw [hk2] at HY hzz
      have HC := Lib.hid C
      have HZZ := Lib.hid hzz
      clear C her htr hk2 ha2 hzz q5 h1 h2 h3 h4 HY0
      go_wp2_with fail
      refine HC.out.mono ?_
      clear HC
      rintro e w3 ⟨⟨fv, rfl, HF⟩, hb3⟩
      obtain ⟨pb, hpb⟩ : ∃ pb, w3.heap.size = pb := ⟨_, rfl⟩
      obtain ⟨wc, hwc⟩ : ∃ wc, w3.alloc (.cells #[.int .i64 k2, .int .i64 a2] 38) = wc := ⟨_, rfl⟩
      have FX := Lib.hid (show FaultAt wc pb k2 a2 by rw [← hwc, ← hpb]; exact FaultAt.new w3 _ _)
      have hal : Below w3.heap.size w3 wc := by rw [← hwc]; exact (Below.refl _ _).alloc (Nat.le_refl _) _
      have hb4 := hb3.trans (hal.mono hb3.size)
      have HA3 := Lib.hid (HA1.out.below hb4)
      have HF3 : Hid (FOwn wc w1.heap.size fv tr) := FOwn.ext HF.out hal
      have HPB := Lib.hid hpb
      have HWC := Lib.hid hwc
      have hB3 : B ≤ wc.heap.size := Nat.le_trans hB1 hb4.size
      have hbc := hb4.mono hB1
      have hpbB : B ≤ pb := by rw [← hpb]; exact Nat.le_trans hB1 hb3.size
      clear c0 c1 c2 c3 c4 f2 HF hpb hwc hal hb3 hb4
      obtain ⟨c0, c1, c2, c3, c4⟩ := HA3.out.cells
      obtain ⟨x0, x1, x2, x3⟩ := FX.out.cells
      go_upto_region 21 with fail
      rw [HWC.out, HPB.out]
      by_cases hz : k2 = 0
      · subst hz
        rw [show ((0 : Nat) : Int) = 0 from rfl] at x0
        have hrl := right_len (HZZ.out rfl)
        have HY2 : Hid (againS S (bl s) = ((putH S.held tr).1.code, { S with held := (putH S.held tr).2.2 })) := by show _ = _; rw [HY.out, if_neg (by simp)]
        have C := refHPut_any (W0 := W0) B hb S.held fv tr wc (HW1.out.trans (hbc.mono hWB)) (.inr (FOwn.low HF3.out hB1)) hrl.1 hrl.2 HA3.out.held hn40 hB3
        obtain ⟨r, hr⟩ : ∃ r, putH S.held tr = r := ⟨_, rfl⟩
        rw [hr] at C HY2
        obtain ⟨er2, nn, hh2⟩ := r
        obtain ⟨k3, hk3⟩ : ∃ k, er2.code = k := ⟨_, rfl⟩
        obtain ⟨a3, ha3⟩ : ∃ a : Int, er2.at?.getD (-1) = a := ⟨_, rfl⟩
        unfold RHPutPost at C
        dsimp only at C HY2
        rw [show erA er2 = #[.int .i64 k3, .int .i64 a3] by unfold erA; rw [hk3, ha3]] at C
        rw [hk3] at HY2
        have HC := Lib.hid C
        clear C hr hk3 ha3 hrl HZZ HY
        go_wp2_with fail
        refine HC.out.mono ?_
        clear HC c0 c1 c2 c3 c4 x0 x1 x2 x3
        rintro e w4 ⟨rfl, hh4, hk4, _⟩
        have HA4 := Lib.hid (HA3.out.turnHeld hk4 hh4)
        have FX4 := Lib.hid (show FaultAt w4 pb 0 a2 from hk4.keep pb _ FX.out (kq_other _ (by decide) _ _))
        have HA5 := Lib.hid (HA4.out.keeps (fault_keeps FX4.out (.int .i64 k3) (.int .i64 a3)) rfree_fault)
        obtain ⟨x0, x1, x2, x3⟩ := FX4.out.cells
        have y0 := (FX4.out.store k3 a3).cells.1
        have hbz : Below B w ((w4.setCell ⟨pb, 0, none⟩ (.int .i64 k3)).setCell ⟨pb, 1, none⟩ (.int .i64 a3)) := (((hbB.trans hbc).trans hk4.below).setCell (p := ⟨pb, 0, none⟩) hpbB _).setCell (p := ⟨pb, 1, none⟩) hpbB _
        clear hh4 hk4 FX FX4
        go_wp2_with fail
        go_ret
        rw [HY2.out]
        exact ⟨rfl, fun _ => ⟨_, _, _, HA5.out⟩, hbz⟩
      · have HY2 : Hid (againS S (bl s) = (1, S)) := by show _ = _; rw [HY.out, if_pos hz]
        have hbz := hbB.trans hbc
        have hpos : (0 : Int) < (k2 : Int) := by omega
        clear hz
        go_wp2_with fail
        go_ret
        rw [HY2.out]
        exact ⟨rfl, fun h => absurd (show (1 : Nat) = 0 from h) (by decide), hbz⟩
    rw [decide_eq_false h4] at q4
    by_cases h5 : bl z0 = wDrop
    · rw [decide_eq_true h5] at q5
      have HY := Lib.hid (HY0.out.trans ((congrArg (fun k => agW S k (bl b)) h5).trans (agW_drop S (bl b))))
      have C := Lib.hid (numberOf_any b 10 (by decide) w1 (by omega))
      clear h1 h2 h3 h4 h5 HY0
      go_wp2_with fail
      refine C.out.mono ?_
      clear C
      rintro e w2 ⟨rfl, rfl⟩
      cases hm : numOf (bl b) 10 with
      | some m =>
        rw [show numI (some m) = (m : Int) from rfl]
        have HY2 : Hid (againS S (bl s) = ((dropH S.held m).1, { S with held := (dropH S.held m).2 })) := by show _ = _; rw [HY.out, hm]
        have C := refHDrop_any (W0 := W0) B hb S.held (m : Int) w1 HA1.out.held hn40 hB1
        obtain ⟨r, hr⟩ : ∃ r, dropH S.held (m : Int) = r := ⟨_, rfl⟩
        rw [hr] at C HY2
        obtain ⟨c, hh2⟩ := r
        unfold RHDropPost at C
        dsimp only at C HY2
        have HC := Lib.hid C
        have hge : ¬ ((m : Int) < 0) := by omega
        clear C hr hm HY
        go_wp2_with fail
        refine HC.out.mono ?_
        clear HC c0 c1 c2 c3 c4
        rintro e w4 ⟨rfl, hh4, hk4⟩
        have HA4 := Lib.hid (HA1.out.turnHeld hk4 hh4)
        have hbz := hbB.trans hk4.below
        clear hh4 hk4
        go_wp2_with fail
        go_ret
        rw [HY2.out]
        exact ⟨rfl, fun _ => ⟨_, _, _, HA4.out⟩, hbz⟩
      | none =>
        rw [show numI none = (-1 : Int) from rfl]
        have HY2 : Hid (againS S (bl s) = (1, S)) := by show _ = _; rw [HY.out, hm]
        clear hm HY
        go_wp2_with fail
        go_ret
        rw [HY2.out]
        exact ⟨rfl, fun h => absurd (show (1 : Nat) = 0 from h) (by decide), hbB⟩
    rw [decide_eq_false h5] at q5
    have HY : Hid (againS S (bl s) = (1, S)) := by show _ = _; rw [HY0.out]; exact agW_other S (bl b) h1 h2 h3 h4 h5
    clear h1 h2 h3 h4 h5 HY0
    go_wp2_with fail
    go_ret
    rw [HY.out]
    exact ⟨rfl, fun h => absurd (show (1 : Nat) = 0 from h) (by decide), hbB⟩
end Go.Proofs.YtcjjbpoaojjojaaGreatDoor

namespace Go.Proofs.YtcjjbpoaojjojaaGreatDoor
open Go Go.RowKit

set_option maxHeartbeats 2000000 in
set_option maxRecDepth 100000 in
theorem shopRules_any {w : World} {B nb hb tb sb tn : Nat} {rv lv : Value} {rl : List RuleB} {n : NetB} {S : ShopS} {t : TapeS} (h : ProgAt w B nb hb tb sb rv lv rl n S t tn) (hn : rl.length ≤ 1000) (hs : ∀ r ∈ rl, Small r) :
    Calls Tryz.prog 44 #[.pointer (some ⟨sb, 0, none⟩)] w fun e w' => (∃ ov, e = .returned ov ∧ Hid (RulesOwn w' w.heap.size ov rl)) ∧ Below w.heap.size w w' := by
  obtain ⟨i1, hi1, hy0, hy1, hy2⟩ := info_parts Tryz.infoR
  obtain ⟨_, c1, _, _, _⟩ := h.cells
  obtain ⟨ao, cap, rfl, h1, h2, H3⟩ := h.rules.row
  have HM := Lib.hid H3
  have HS := Lib.hid hs
  clear H3 hs h
  go_enter Tryz.func44, Tryz.ntmps44
  go_wp2_with fail
  go_loopw [3, 5, 11] (fun o _ i wr => ∃ k : Nat, k ≤ rl.length ∧ i = .int .i64 k ∧ Hid (RulesOwn wr w.heap.size o (rl.take k)) ∧ Below w.heap.size w wr) (fun _ _ i _ => rl.length - (intOf i).toNat)
  case atStart => exact ⟨0, Nat.zero_le _, rfl, RulesOwn.nil _ _, Below.refl _ _⟩
  case round =>
    obtain ⟨k, hk, rfl, HO, hb⟩ := hrel
    by_cases hlt : k < rl.length
    · obtain ⟨b, off, rfl, hbl, hcell⟩ := HM.out k hlt
      obtain ⟨d1, tv, d2, d3⟩ := hcell k hlt
      have cl1 := (hb.cell (p := ⟨b, off + k * 2, none⟩) hbl).trans d1
      have cl2 := (hb.cell (p := ⟨b, off + k * 2 + 1, none⟩) hbl).trans d2
      have HT := Lib.hid (d3.ext hb)
      have HK : Hid (rl.take (k + 1) = rl.take k ++ [rl[k]]) := by show _ = _; rw [List.take_add_one, List.getElem?_eq_getElem hlt]; rfl
      have hts : rl[k].2.length ≤ 10 := (HS.out rl[k] (List.getElem_mem hlt)).2.1
      clear hcell d1 d2 d3
      generalize rl[k] = r at cl1 HT HK hts
      obtain ⟨f, ts⟩ := r
      dsimp only at cl1 hts HT
      obtain ⟨ao2, cap2, rfl, _⟩ := id HT.out
      have hal : Below wr.heap.size wr (wr.alloc (.cells #[.string f, .slice ao2 ts.length cap2] 58)) := (Below.refl _ _).alloc (Nat.le_refl _) _
      have C := Lib.hid (copied_any f (.slice ao2 ts.length cap2) ts (wr.alloc (.cells #[.string f, .slice ao2 ts.length cap2] 58)) (by omega) (HT.out.ext hal))
      clear HT
      go_wp2_with fail
      refine C.out.mono ?_
      clear C
      rintro e w2 ⟨⟨ov, rfl, HO2⟩, hb2⟩
      obtain ⟨oa, oc, rfl⟩ := row_shape HO2.out
      have bB : Below wr.heap.size wr w2 := hal.trans (hb2.mono hal.size)
      have hal2 : Below w2.heap.size w2 (w2.alloc (.cells #[.string f, .slice oa ts.length oc] 58)) := (Below.refl _ _).alloc (Nat.le_refl _) _
      have bC : Below wr.heap.size wr (w2.alloc (.cells #[.string f, .slice oa ts.length oc] 58)) := bB.trans (hal2.mono bB.size)
      have hwal : w.heap.size ≤ (wr.alloc (.cells #[.string f, .slice ao2 ts.length cap2] 58)).heap.size := Nat.le_trans hb.size hal.size
      have HR8 : Hid ((w2.alloc (.cells #[.string f, .slice oa ts.length oc] 58)).ownsRow w.heap.size 9 1 (.slice oa ts.length oc) ts.length (ts.map Value.string)) := own_mono (owns_below HO2.out hal2) hwal
      have hkl : (rl.take k).length = k := by rw [List.length_take]; omega
      obtain ⟨tvs, t1, t2, t3⟩ := HO.out.ext bC
      have T1 := Lib.hid t1; have T3 := Lib.hid t3; have T2 := Lib.hid t2
      rw [hkl] at t2
      have HKL := Lib.hid hkl
      have HBC := Lib.hid bC
      have hb5 : w.heap.size ≤ w2.heap.size := Nat.le_trans hb.size bB.size
      clear t1 t3 hkl bC bB hal hal2 HO2 hwal hb2
      go_wp2_with (at_builtin; refine wpList_append_own _ rfl _ _ 105 rfl w.heap.size 58 i1 (.agg #[.string ⟨#[]⟩, .slice none 0 0]) 2 40 Tryz.underlying105 hi1 hy0 hy1 hy2 rfl (by decide) _ _ _ rfl t2 ⟨w2.heap.size, 0, none⟩ 1 1 [.string f, .slice oa ts.length oc] rfl rfl ?m1 ?m2 ?m3 ?m4 ?m5 ?_)
      case m1 =>
        intro j u hj
        match j, hj with
        | 0, hj => simp at hj; subst hj; rw [Addr.add_lit, World.cell?_alloc_at _ _ _ _ (by simp)]; simp
        | 1, hj => simp at hj; subst hj; rw [Addr.add_lit, World.cell?_alloc_at _ _ _ _ (by simp)]; simp
      case m2 => intro u hu; simp at hu; rcases hu with rfl | rfl <;> rfl
      case m3 => rw [maxLen_eq]; omega
      case m4 => omega
      case m5 => simp; omega
      intro v7 w7 hown7 hgrow7 _
      have hb7 : Below w.heap.size w w7 := (hb.trans (HBC.out.mono hb.size)).grown hgrow7 (by simp; omega) (fun r e => (t2.lt r e).1)
      have H8 : Hid (RulesOwn w7 w.heap.size v7 (rl.take (k + 1))) := by
        show RulesOwn _ _ _ _
        rw [HK.out]
        exact RulesOwn.snoc (r := (f, ts)) T1.out T2.out T3.out HR8.out (by rw [HKL.out]; exact hown7) hgrow7
      clear hown7 hgrow7 t2
      go_wp2_with fail
      go_roundw
      case rel => exact ⟨k + 1, by omega, by go_num, H8, hb7⟩
      case measure => simp [intOf]; omega
    · obtain rfl : k = rl.length := by omega
      have HO2 : Hid (RulesOwn wr w.heap.size u3 rl) := by have := HO.out; rwa [List.take_length] at this
      go_wp2_with fail
      go_ret
      exact ⟨⟨_, rfl, HO2⟩, hb⟩
end Go.Proofs.YtcjjbpoaojjojaaGreatDoor

namespace Go.Proofs.YtcjjbpoaojjojaaGreatDoor
open Go Go.RowKit

theorem RowP.row {w : World} {v : Value} {l : List ByteArray} (h : RowP w v l) : Row encStr 1 w v l ∨ (l = [] ∧ ∃ a c, v = .slice a 0 c) := by
  obtain ⟨ao, cap, rfl, h1, h2, h3, h4⟩ := h
  by_cases h0 : l = []
  · subst h0; exact .inr ⟨rfl, _, _, rfl⟩
  · have hp : 0 < l.length := List.length_pos_iff.2 h0
    obtain ⟨b, off, rfl, hb, hc⟩ := h4 0 hp
    refine .inl (.inr ⟨b, off, cap, rfl, h1, h2, hb, fun i hi j hj => ?_⟩)
    obtain rfl : j = 0 := by omega
    rw [Nat.mul_one, Nat.add_zero]
    exact hc i hi
set_option maxRecDepth 100000 in
theorem sameTexts_nil (a b : Option Addr) (c d : Nat) (w : World) :
    Calls Tryz.prog 56 #[.slice a 0 c, .slice b 0 d] w fun e w' => e = .returned (.bool true) ∧ Below w.heap.size w w' := by
  go_enter Tryz.func56, Tryz.ntmps56
  go_wp2_with fail
  go_loopw [5] (fun i wr => i = .int .i64 0 ∧ Below w.heap.size w wr) (fun _ _ => 0)
  case atStart => exact ⟨rfl, Below.refl _ _⟩
  case round =>
    obtain ⟨rfl, hb⟩ := hrel
    go_wp2_with fail
    go_ret
    exact ⟨rfl, hb⟩
theorem sameTexts_p {w : World} {v u : Value} {l : List ByteArray} (hv : RowP w v l) (hu : RowP w u l) (hn : l.length ≤ 1000000) :
    Calls Tryz.prog 56 #[v, u] w fun e w' => e = .returned (.bool true) ∧ Below w.heap.size w w' := by
  rcases hv.row with h1 | ⟨rfl, a, c, rfl⟩
  · rcases hu.row with h2 | ⟨rfl, a, c, rfl⟩
    · exact sameTexts_same h1 h2 rfl hn
    · obtain ⟨ao, cap, rfl, _⟩ := hv
      exact sameTexts_nil _ _ _ _ _
  · obtain ⟨ao, cap, rfl, _⟩ := hu
    exact sameTexts_nil _ _ _ _ _

set_option maxHeartbeats 2000000 in
set_option maxRecDepth 100000 in
theorem sameRules_any {w : World} {v u : Value} {l : List RuleB} (hv : RulesRow w v l) (hu : RulesRow w u l) (hn : l.length ≤ 1000) (hs : ∀ r ∈ l, Small r) :
    Calls Tryz.prog 43 #[v, u] w fun e w' => e = .returned (.bool true) ∧ Below w.heap.size w w' := by
  obtain ⟨ao, cap, rfl, h1, h2, H3⟩ := hv
  obtain ⟨ao', cap', rfl, h1', h2', H3'⟩ := hu
  have HM := Lib.hid H3
  have HM' := Lib.hid H3'
  have HS := Lib.hid hs
  clear H3 H3' hs
  go_enter Tryz.func43, Tryz.ntmps43
  go_wp2_with fail
  go_loopw [5] (fun i wr => ∃ k : Nat, k ≤ l.length ∧ i = .int .i64 k ∧ Below w.heap.size w wr) (fun i _ => l.length - (intOf i).toNat)
  case atStart => exact ⟨0, Nat.zero_le _, rfl, Below.refl _ _⟩
  case round =>
    obtain ⟨k, hk, rfl, hb⟩ := hrel
    by_cases hlt : k < l.length
    · obtain ⟨b, off, rfl, hbl, hcell⟩ := HM.out k hlt
      obtain ⟨b', off', rfl, hbl', hcell'⟩ := HM'.out k hlt
      obtain ⟨d1, tv, d2, d3⟩ := hcell k hlt
      obtain ⟨d1', tv', d2', d3'⟩ := hcell' k hlt
      have hts : l[k].2.length ≤ 1000000 := by have := (HS.out l[k] (List.getElem_mem hlt)).2.1; omega
      generalize l[k] = r at d1 d3 d1' d3' hts
      obtain ⟨f, ts⟩ := r
      dsimp only at d1 d3 d1' d3' hts
      obtain ⟨tao, tcap, rfl, _⟩ := id d3
      obtain ⟨tao', tcap', rfl, _⟩ := id d3'
      have KS : Hid (∀ W, Below w.heap.size w W → W.cell? ⟨b, off + k * 2, none⟩ = some (.string f) ∧ W.cell? ⟨b, off + k * 2 + 1, none⟩ = some (.slice tao ts.length tcap) ∧ W.cell? ⟨b', off' + k * 2, none⟩ = some (.string f) ∧ W.cell? ⟨b', off' + k * 2 + 1, none⟩ = some (.slice tao' ts.length tcap')) := fun W hW =>
        ⟨(hW.cell (p := ⟨b, off + k * 2, none⟩) hbl).trans d1, (hW.cell (p := ⟨b, off + k * 2 + 1, none⟩) hbl).trans d2, (hW.cell (p := ⟨b', off' + k * 2, none⟩) hbl').trans d1', (hW.cell (p := ⟨b', off' + k * 2 + 1, none⟩) hbl').trans d2'⟩
      have hdr : Below w.heap.size w wr.drew := hb.trans (below_drewN _ _ 1)
      have C := Lib.hid (sameTexts_p (d3.ext hdr) (d3'.ext hdr) hts)
      obtain ⟨a1, a2, a3, a4⟩ := KS.out wr hb
      have hne : (f.toList == f.toList) = true := beq_self_eq_true _
      clear hcell hcell' d1 d2 d3 d1' d2' d3'
      go_wp2_with fail
      go_region_held3 (fun W : World => W.cell? ⟨b, off + k * 2, none⟩ = some (.string f) ∧ W.cell? ⟨b, off + k * 2 + 1, none⟩ = some (.slice tao ts.length tcap) ∧ W.cell? ⟨b', off' + k * 2, none⟩ = some (.string f) ∧ W.cell? ⟨b', off' + k * 2 + 1, none⟩ = some (.slice tao' ts.length tcap')) (first | exact KS.out _ hdr | exact KS.out _ hb2)
        (first
          | (go_at_call 56; refine C.out.mono ?_; rintro e w2 ⟨rfl, hb2'⟩; have hb2 := hdr.trans (hb2'.mono hdr.size))
          | fail)
      all_goals
        go_wp2_with fail
        go_roundw
        case rel => exact ⟨k + 1, by omega, by go_num, hb2⟩
        case measure => simp [intOf]; omega
    · obtain rfl : k = l.length := by omega
      go_wp2_with fail
      go_ret
      exact ⟨rfl, hb⟩
end Go.Proofs.YtcjjbpoaojjojaaGreatDoor

namespace Go.Proofs.YtcjjbpoaojjojaaGreatDoor
open Go Go.RowKit

theorem VS.low {W0 w : World} {B B2 : Nat} (hB : B2 ≤ B) : ∀ {vs ts}, VS W0 w B vs ts → VS W0 w B2 vs ts
  | [], [], _ => trivial
  | _ :: _, _ :: _, h => ⟨h.1, h.2.1.elim .inl (fun h => .inr (FOwn.low h hB)), VS.low hB h.2.2⟩
theorem RHeldIs.low {W0 w : World} {B B2 b : Nat} {h : HeldB} (hi : RHeldIs W0 w B b h) (hB : B2 ≤ B) : RHeldIs W0 w B2 b h := by
  obtain ⟨lv, vs, hA, hV⟩ := hi
  exact ⟨lv, vs, ⟨Nat.le_trans hB hA.hb, hA.blk, own_mono hA.row hB⟩, hV.low hB⟩
theorem RRules.low {w : World} {B B2 : Nat} {v : Value} {l : List RuleB} (h : RRules w B v l) (hB : B2 ≤ B) : RRules w B2 v l := by
  obtain ⟨tvs, hl, ho, hr⟩ := h
  refine ⟨tvs, hl, own_mono ho hB, fun j hj => ?_⟩
  obtain ⟨tv, h1, h2⟩ := hr j hj
  exact ⟨tv, h1, h2.low hB⟩
/-- The reference's shop that was opened, beside its net and its tape. -/
theorem RAgAt.ref {W0 w : World} {B Bo nb hb tb sb : Nat} {rv lv : Value} {rl : List RuleB} {n : NetB} {S : ShopS} {t : TapeS} (h : RAgAt W0 w Bo hb sb (.pointer (some ⟨nb, 0, none⟩)) (.pointer (some ⟨tb, 0, none⟩)) rv lv rl S) (hB : B ≤ Bo) (htb : B ≤ tb) (hn : RNetIs w B nb n) (ht : RTapeS w tb t) : RefAt W0 w B nb hb tb sb rv lv rl n S t :=
  ⟨Nat.le_trans hB h.hsb, htb, h.shop, h.rules.low hB, h.ruled, h.lock.low hB, h.held.low hB, ht, hn⟩

set_option maxRecDepth 100000 in
theorem refNewShop_any (W0 : World) (p q : Option Addr) (w : World) :
    Calls Tryz.prog 17 #[.pointer p, .pointer q] w fun e w' => ∃ hb sb, e = .returned (.pointer (some ⟨sb, 0, none⟩)) ∧ Hid (RAgAt W0 w' w.heap.size hb sb (.pointer p) (.pointer q) (.slice none 0 0) (.slice none 0 0) [] emptyS) ∧ Below w.heap.size w w' := by
  have C := Lib.hid (refNewHeld_any W0 40 w)
  go_enter Tryz.func17, Tryz.ntmps17
  go_wp2_with fail
  refine C.out.mono ?_
  clear C
  rintro e w1 ⟨hb, rfl, hh, hb1⟩
  have HH := Lib.hid hh
  clear hh
  have hal : Below w1.heap.size w1 (w1.alloc (.cells #[.pointer p, .slice none 0 0, .slice none 0 0, .pointer (some ⟨hb, 0, none⟩), .pointer q] 108)) := (Below.refl _ _).alloc (Nat.le_refl _) _
  have HA : Hid (RAgAt W0 (w1.alloc (.cells #[.pointer p, .slice none 0 0, .slice none 0 0, .pointer (some ⟨hb, 0, none⟩), .pointer q] 108)) w.heap.size hb w1.heap.size (.pointer p) (.pointer q) (.slice none 0 0) (.slice none 0 0) [] emptyS) :=
    ⟨hb1.size, heap_alloc_new _ _, RRules.nil _ _, rfl, WOwn.nil _ _, HH.out.below hal⟩
  have hb2 := hb1.trans (hal.mono hb1.size)
  clear hal
  go_wp2_with fail
  go_ret
  exact ⟨_, _, rfl, HA, hb2⟩

theorem againS_held {S : ShopS} (h : HeldOk S.held) (r : List UInt8) : HeldOk (againS S r).2.held := by
  obtain ⟨k, x, b, hc⟩ : ∃ k x b, Lib.cut r [32] = (k, x, b) := ⟨_, _, _, rfl⟩
  cases b with
  | false => rw [againS_no (by rw [hc])]; exact h
  | true =>
    rw [againS_is hc]
    unfold agW
    split
    · split <;> exact h
    · split
      · split <;> exact h
      · split
        · exact h
        · split
          · split
            · exact h
            · exact putH_ok _ h
          · split
            · split
              · exact h
              · exact dropH_ok _ h
            · exact h
theorem openGo_held : ∀ (l : List (List UInt8)) (i : Nat) (S : ShopS), HeldOk S.held → HeldOk (openGo i S l).2.held
  | [], _, S, h => h
  | r :: l, i, S, h => by
    unfold openGo
    split
    · exact h
    · exact openGo_held l (i + 1) _ (againS_held h r)
theorem RAgAt.low {W0 w : World} {B B2 hb sb : Nat} {np tp rv lv : Value} {rl : List RuleB} {S : ShopS} (h : RAgAt W0 w B hb sb np tp rv lv rl S) (hB : B2 ≤ B) : RAgAt W0 w B2 hb sb np tp rv lv rl S :=
  ⟨Nat.le_trans hB h.hsb, h.shop, h.rules.low hB, h.ruled, h.lock.low hB, h.held.low hB⟩
theorem But.fresh {m : Nat} {w w1 w2 : World} (h : But m w w1) (h2 : Below w.heap.size w1 w2) : But m w w2 :=
  ⟨h2.os.trans h.os, h2.tape.trans h.tape, h2.output.trans h.output, Nat.le_trans h.size h2.size, fun k hk hm => (h2.block k hk).trans (h.block k hk hm)⟩
/-- What OpenShop hands back, and leaves. -/
def ROpenPost (W0 : World) (B tb : Nat) (p : Option Addr) (r : Er × ShopS) (t : TapeS) (w : World) (e : Ending) (w' : World) : Prop :=
  ((r.1.code = 0 ∧ ∃ hb sb rv lv rl, e = .returned (.tuple #[.pointer (some ⟨sb, 0, none⟩), .agg #[.int .i64 0, .int .i64 (-1)]]) ∧ Hid (RAgAt W0 w' B hb sb (.pointer p) (.pointer (some ⟨tb, 0, none⟩)) rv lv rl r.2)) ∨
    (r.1.code ≠ 0 ∧ e = .returned (.tuple #[.pointer none, .agg (erA r.1)]))) ∧ Hid (RTapeS w' tb t) ∧ Hid (Keeps RTapeRow B w w') ∧ Hid (But tb w w')

theorem RTapeS.recovered {w' : World} {m : Nat} {t : TapeS} {b b' : ByteArray} (h : bl b = t.bytes) (hl : t.bytes.length ≤ 1048576) (hb : bl b' = recsL (tapeL (bl b))) (hD : RTapeIs w' m b' false (-1)) : RTapeS w' m (recT t) := by
  rw [recT_eq]
  have := recsL_tape_short t.bytes
  exact ⟨b', by rw [hb, h], hD, by show (recsL (tapeL t.bytes)).length ≤ _; omega, by show (-1 : Int) ≤ -1 ∧ (-1 : Int) ≤ _; omega⟩

set_option maxHeartbeats 8000000 in
set_option maxRecDepth 100000 in
theorem refOpen_any {W0 : World} (B tb : Nat) (p : Option Addr) (t : TapeS) (w : World) (ht : RTapeS w tb t) (htb : B ≤ tb) (hBw : B ≤ w.heap.size) (hW : Below W0.heap.size W0 w) (hWB : W0.heap.size ≤ B) :
    Calls Tryz.prog 12 #[.pointer p, .pointer (some ⟨tb, 0, none⟩)] w (ROpenPost W0 B tb p (openS t.bytes) (recT t) w) := by
  obtain ⟨g, hg⟩ : ∃ g, w.heap.size = g := ⟨_, rfl⟩
  obtain ⟨wg, hwg⟩ : ∃ wg, w.alloc (.cells #[.int .i64 0, .int .i64 0] 38) = wg := ⟨_, rfl⟩
  have hal : Below w.heap.size w wg := by rw [← hwg]; exact (Below.refl _ _).alloc (Nat.le_refl _) _
  have FG := Lib.hid (show FaultAt wg g 0 0 by rw [← hwg, ← hg]; exact FaultAt.new w 0 0)
  have hBg : B ≤ g := by rw [← hg]; exact hBw
  have htw : tb < w.heap.size := by
    obtain ⟨b, _, hD, _⟩ := ht
    exact (Array.getElem?_eq_some_iff.1 hD).1
  obtain ⟨b, hbt, hD, hlen, hcut⟩ := ht.below hal
  have hbs : b.size = t.bytes.length := by rw [← bl_length, hbt]
  have hBwg : B ≤ wg.heap.size := Nat.le_trans hBw hal.size
  have C := Lib.hid (refRecover_any tb b t.off t.cut wg hD (by omega))
  have HW0 := Lib.hid (hW.trans (hal.mono hW.size))
  have HAL := Lib.hid hal
  have HD := Lib.hid hD
  have HBT := Lib.hid hbt
  have HWG := Lib.hid hwg
  have HG := Lib.hid hg
  clear hal hwg hg hD hbt hW
  go_enter Tryz.func12, Tryz.ntmps12
  go_upto_region 1 with fail
  rw [HWG.out, HG.out]
  go_wp2_with fail
  refine C.out.mono ?_
  clear C
  rintro e w1 ⟨v, zs, rfl, HR, HZ, hzl, ⟨b', HB', hD1⟩, hbu⟩
  have hk1 : Keeps RTapeRow B wg w1 := hbu.keeps htb hBwg HD.out ⟨_, _, rfl⟩
  have HT1 := Lib.hid (RTapeS.recovered HBT.out hlen HB'.out hD1)
  have HK1 := Lib.hid hk1
  have HU1 := Lib.hid ((But.of HAL.out).trans hbu)
  have FG1 : Hid (FaultAt w1 g 0 0) := hk1.keep g _ FG.out (fun ⟨_, _, h⟩ => by injection h with _ h _; exact absurd h (by decide))
  have HSZ : Hid (∀ z ∈ zs, z.size ≤ 20000) := fun z hz => by
    have := tapeL_small t.bytes (bl z) (by rw [← HBT.out, ← HZ.out]; exact List.mem_map.2 ⟨z, hz, rfl⟩)
    rwa [bl_length] at this
  have HO : Hid (openS t.bytes = openGo 0 emptyS (zs.map bl)) := by show _ = _; rw [HZ.out, HBT.out]; rfl
  have hB1 : B ≤ w1.heap.size := Nat.le_trans hBwg hk1.below.size
  have HW1 := Lib.hid (HW0.out.trans (hk1.below.mono hWB))
  have hsw : w.heap.size ≤ w1.heap.size := Nat.le_trans HAL.out.size hk1.below.size
  have C := Lib.hid (refNewShop_any W0 p (some ⟨tb, 0, none⟩) w1)
  obtain ⟨ao, cap, rfl, r1, r2, H3⟩ := HR.out.parts
  have HRR := Lib.hid H3
  clear HR hD1 hbu hk1 FG HB' H3 HZ HD
  go_wp2_with fail
  refine C.out.mono ?_
  clear C
  rintro e w2 ⟨hb, sb, rfl, HA, hb2⟩
  obtain ⟨Bo, hBo⟩ : ∃ Bo, w1.heap.size = Bo := ⟨_, rfl⟩
  rw [hBo] at HA hb2 hB1
  have HBo := Lib.hid hBo
  clear hBo
  have hBo2 : Bo ≤ w2.heap.size := by have := hb2.size; have := HBo.out; omega
  have hgBo : g < Bo := by have := FG1.out.lt; have := HBo.out; omega
  have hWBo : W0.heap.size ≤ Bo := Nat.le_trans hWB hB1
  go_wp2_with fail
  go_loopw [8] (fun i wr => ∃ (k : Nat) (S : ShopS), k ≤ zs.length ∧ i = .int .i64 k ∧ Hid (openS t.bytes = openGo k S ((zs.map bl).drop k)) ∧ Hid (OpOk S ∧ HeldOk S.held) ∧ Hid (RAgIs W0 wr Bo hb sb (.pointer p) (.pointer (some ⟨tb, 0, none⟩)) S) ∧ Bo ≤ wr.heap.size ∧ Hid (Below Bo w1 wr)) (fun i _ => zs.length - (intOf i).toNat)
  case atStart => exact ⟨0, emptyS, Nat.zero_le _, rfl, HO, ⟨OpOk.empty, newH_ok 40⟩, ⟨_, _, _, HA.out⟩, hBo2, hb2⟩
  case round =>
    obtain ⟨k, S, hk, rfl, HG2, HOK, HAg, hBr, HB⟩ := hrel
    have FGr := Lib.hid (FG1.out.ext (show Below w1.heap.size w1 wr by rw [HBo.out]; exact HB.out))
    by_cases hlt : k < zs.length
    · obtain ⟨g2, off, rfl, hgl, hcell⟩ := HRR.out k hlt
      have cl := hcell k hlt
      have hgB : g2 < Bo := by rw [← HBo.out]; exact hgl
      have cl2 : wr.cell? ⟨g2, off + k, none⟩ = some (.string zs[k]) := by
        rw [HB.out.cell (p := ⟨g2, off + k, none⟩) hgB]; exact cl
      have hz : zs[k].size ≤ 20000 := HSZ.out _ (List.getElem_mem hlt)
      have HD : Hid ((zs.map bl).drop k = bl zs[k] :: (zs.map bl).drop (k + 1)) := drop_bl zs k hlt
      have C := refAgain_any (W0 := W0) Bo hb sb p (some ⟨tb, 0, none⟩) S zs[k] wr HAg.out HOK.out.1 HOK.out.2 hz hBr (HW1.out.trans (HB.out.mono hWBo)) hWBo
      have hst := @OpOk.step S (bl zs[k]) HOK.out.1
      have hsh := againS_held HOK.out.2 (bl zs[k])
      have hgs := @openGo_step k S (bl zs[k]) ((zs.map bl).drop (k + 1))
      have hgb := @openGo_bad k S (bl zs[k]) ((zs.map bl).drop (k + 1))
      rw [← HD.out, ← HG2.out] at hgs hgb
      obtain ⟨r, hr⟩ : ∃ r, againS S (bl zs[k]) = r := ⟨_, rfl⟩
      rw [hr] at C hst hsh hgs hgb
      obtain ⟨c, S2⟩ := r
      unfold RAgPost at C
      dsimp only at C hst hsh hgs hgb
      have HC := Lib.hid C
      have HST := Lib.hid hst
      have HSH := Lib.hid hsh
      have HGS := Lib.hid hgs
      have HGB := Lib.hid hgb
      clear C hr hcell cl hst hsh hgs hgb HG2 HD HAg
      generalize zs[k] = z at cl2 HC
      go_wp2_with fail
      refine HC.out.mono ?_
      clear HC cl2
      rintro e w3 ⟨rfl, HP, hb3⟩
      have HB3 := Lib.hid (HB.out.trans hb3)
      have hBr3 : Bo ≤ w3.heap.size := Nat.le_trans hBr hb3.size
      clear hb3 FGr
      cases c with
      | zero =>
        have HAg3 := Lib.hid (HP.out rfl)
        have HOK3 := Lib.hid (And.intro (HST.out rfl) HSH.out)
        have HG3 := Lib.hid (HGS.out rfl)
        rw [show ((0 : Nat) : Int) = 0 from rfl]
        clear HP HST HSH HGS HGB
        go_wp2_with fail
        go_roundw
        case rel => exact ⟨k + 1, S2, by omega, by go_num, HG3, HOK3, HAg3, hBr3, HB3⟩
        case measure => simp [intOf]; omega
      | succ c =>
        have HY := Lib.hid (HGB.out (Nat.succ_ne_zero _))
        obtain ⟨ci, hci⟩ : ∃ ci : Int, ((c + 1 : Nat) : Int) = ci := ⟨_, rfl⟩
        have hpos : (0 : Int) < ci := by omega
        have HCI := Lib.hid hci
        rw [hci]
        have hb13 : Below w1.heap.size w1 w3 := by rw [HBo.out]; exact HB3.out
        have FG3 := Lib.hid (FG1.out.ext hb13)
        obtain ⟨y0, y1, y2, y3⟩ := FG3.out.cells
        clear HP HST HSH HGS HGB hci
        go_wp2_with fail
        obtain ⟨s0, s1, s2⟩ := fault_end FG3.out ci (k : Int) w.heap.size (by rw [HG.out]; exact Nat.le_refl _)
        have hkf := fault_keeps FG3.out (.int .i64 ci) (.int .i64 (k : Int))
        have hTZ := (HT1.out.below hb13).keeps hkf (fun cs fz ⟨_, _, h⟩ => by injection h with _ h _; exact absurd h (by decide))
        have hKZ : Keeps RTapeRow B w ((w3.setCell ⟨g, 0, none⟩ (.int .i64 ci)).setCell ⟨g, 1, none⟩ (.int .i64 (k : Int))) := ((Keeps.of HAL.out hBw).trans HK1.out).fresh ((hb13.mono hsw).trans s2) hBw
        rw [HY.out]
        refine bodyPost_ret (v := .tuple #[.pointer none, .agg #[.int .i64 ci, .int .i64 (k : Int)]]) ?_ rfl ⟨.inr ⟨Nat.succ_ne_zero _, by unfold erA; rw [← HCI.out]; rfl⟩, hTZ, hKZ, HU1.out.fresh ((hb13.mono hsw).trans s2)⟩
        simp [results, Tryz.results12, go_sem, s0, s1]
    · obtain rfl : k = zs.length := by omega
      have HY : Hid (openS t.bytes = (⟨0, none⟩, S)) := by show _ = _; rw [HG2.out, drop_end]; rfl
      obtain ⟨rv, lv, rl, hA⟩ := HAg.out
      have HAR := Lib.hid hA
      have C := Lib.hid (refFine_any wr)
      clear hA HG2
      go_wp2_with fail
      refine C.out.mono ?_
      clear C
      rintro e w3 ⟨rfl, hb3⟩
      have hb13 : Below w1.heap.size w1 w3 := (show Below w1.heap.size w1 wr by rw [HBo.out]; exact HB.out).trans (hb3.mono (by rw [HBo.out]; exact hBr))
      have FG3 := Lib.hid (FG1.out.ext hb13)
      have HA3 := Lib.hid (HAR.out.below hb3)
      obtain ⟨y0, y1, y2, y3⟩ := FG3.out.cells
      clear hb3 FGr
      go_wp2_with fail
      obtain ⟨s0, s1, s2⟩ := fault_end FG3.out 0 (-1) w.heap.size (by rw [HG.out]; exact Nat.le_refl _)
      have hkf := fault_keeps FG3.out (.int .i64 0) (.int .i64 (-1))
      have hTZ := (HT1.out.below hb13).keeps hkf (fun cs fz ⟨_, _, h⟩ => by injection h with _ h _; exact absurd h (by decide))
      have hAZ := HA3.out.keeps hkf rfree_fault
      have hKZ : Keeps RTapeRow B w ((w3.setCell ⟨g, 0, none⟩ (.int .i64 0)).setCell ⟨g, 1, none⟩ (.int .i64 (-1))) := ((Keeps.of HAL.out hBw).trans HK1.out).fresh ((hb13.mono hsw).trans s2) hBw
      rw [HY.out]
      refine bodyPost_ret (v := .tuple #[.pointer (some ⟨sb, 0, none⟩), .agg #[.int .i64 0, .int .i64 (-1)]]) ?_ rfl ⟨.inl ⟨rfl, hb, sb, rv, lv, rl, rfl, hAZ.low hB1⟩, hTZ, hKZ, HU1.out.fresh ((hb13.mono hsw).trans s2)⟩
      simp [results, Tryz.results12, go_sem, s0, s1]
end Go.Proofs.YtcjjbpoaojjojaaGreatDoor

namespace Go.Proofs.YtcjjbpoaojjojaaGreatDoor
open Go Go.RowKit

theorem map_blInj : ∀ {a b : List ByteArray}, a.map bl = b.map bl → a = b
  | [], [], _ => rfl
  | [], _ :: _, h => by cases h
  | _ :: _, [], h => by cases h
  | x :: a, y :: b, h => by
    rw [List.map_cons, List.map_cons] at h
    obtain ⟨h1, h2⟩ := List.cons.inj h
    rw [bl_inj h1, map_blInj h2]
theorem rules_inj : ∀ {a b : List RuleB}, a.map ruleOf = b.map ruleOf → a = b
  | [], [], _ => rfl
  | [], _ :: _, h => by cases h
  | _ :: _, [], h => by cases h
  | x :: a, y :: b, h => by
    rw [List.map_cons, List.map_cons] at h
    obtain ⟨h1, h2⟩ := List.cons.inj h
    obtain ⟨x1, x2⟩ := x
    obtain ⟨y1, y2⟩ := y
    unfold ruleOf at h1
    obtain ⟨e1, e2⟩ := Prod.mk.inj h1
    have f1 : x1 = y1 := bl_inj e1
    have f2 : x2 = y2 := map_blInj e2
    rw [rules_inj h2, f1, f2]

set_option maxHeartbeats 4000000 in
set_option maxRecDepth 100000 in
theorem asShop_any {W0 w : World} {B B2 nb hb tb sb tn mb kb ub qb : Nat} {rv lv rv2 lv2 : Value} {rl rl2 : List RuleB} {n n2 : NetB} {S : ShopS} {t : TapeS} (hP : ProgAt w B nb hb tb sb rv lv rl n S t tn) (hR : RefAt W0 w B2 mb kb ub qb rv2 lv2 rl2 n2 S t) (hBw : B ≤ w.heap.size) (hl : S.lock.length ≤ 10000) (hh : S.held.trees.length ≤ 1000) (hr : (rulesEr S.rules).code = 0) :
    Calls Tryz.prog 14 #[.pointer (some ⟨sb, 0, none⟩), .pointer (some ⟨qb, 0, none⟩)] w fun e w' => e = .returned (.bool true) ∧ Below w.heap.size w w' := by
  obtain rfl : rl = rl2 := rules_inj (by rw [hP.ruled, hR.ruled])
  obtain ⟨hfew, hsm⟩ := rules_small (l := rl) (by rw [hP.ruled]; exact hr)
  have HP := Lib.hid hP
  have HR := Lib.hid hR
  have C := Lib.hid (shopHeld_any hP hBw)
  have HSM := Lib.hid hsm
  obtain ⟨z, hz⟩ : ∃ z : ByteArray, (⟨t.bytes.toArray⟩ : ByteArray) = z := ⟨_, rfl⟩
  obtain ⟨bz, hbz, htz, _⟩ := hR.tape
  obtain rfl : bz = z := by rw [← hz, ← hbz, bytes_bl]
  have HZ := Lib.hid hz
  have HTZ := Lib.hid htz
  clear hP hR hr hsm hz hbz htz
  go_enter Tryz.func14, Tryz.ntmps14
  go_wp2_with fail
  refine C.out.mono ?_
  clear C
  rintro e w1 ⟨⟨cb, rfl, HC, _⟩, hb1⟩
  have HP1 := Lib.hid (HP.out.below hb1)
  have HR1 := Lib.hid (HR.out.below hb1)
  have HT1 := Lib.hid (HTZ.out.below hb1)
  have HB1 := Lib.hid hb1
  have hBw1 : B ≤ w1.heap.size := Nat.le_trans hBw hb1.size
  have KM : Hid (∀ W, Below w1.heap.size w1 W → W.cell? ⟨qb, 3, none⟩ = some (.pointer (some ⟨kb, 0, none⟩)) ∧ W.cell? ⟨qb, 2, none⟩ = some lv2 ∧ W.cell? ⟨qb, 1, none⟩ = some rv2 ∧ W.cell? ⟨qb, 4, none⟩ = some (.pointer (some ⟨ub, 0, none⟩)) ∧ W.cell? ⟨ub, 0, none⟩ = some (.string bz)) := fun W hW => by
    have h1 := (HR1.out.below hW).shop
    have h2 := HT1.out.below hW
    exact ⟨by rw [Lib.cell_of_heap h1]; rfl, by rw [Lib.cell_of_heap h1]; rfl, by rw [Lib.cell_of_heap h1]; rfl, by rw [Lib.cell_of_heap h1]; rfl, by rw [Lib.cell_of_heap h2]; rfl⟩
  have CS1 : Hid (∀ W, Below w1.heap.size w1 W → Calls Tryz.prog 25 #[.pointer (some ⟨cb, 0, none⟩)] W fun e w' => (∃ ov, e = .returned ov ∧ Hid (Row encInt 1 w' ov S.held.sums)) ∧ Below W.heap.size W w') := fun W hW => by
    refine (heldSums_any B cb S.held W (HC.out.below hW)).mono ?_
    rintro e w' ⟨⟨ov, rfl, hO⟩, hb⟩
    exact ⟨⟨ov, rfl, hO.out.row⟩, hb⟩
  have CS2 : Hid (∀ W, Below w1.heap.size w1 W → Calls Tryz.prog 41 #[.pointer (some ⟨kb, 0, none⟩)] W fun e w' => (∃ ov, e = .returned ov ∧ Hid (Row encInt 1 w' ov S.held.sums)) ∧ Below W.heap.size W w') := fun W hW => by
    refine (refHSums_any W0 B2 kb S.held W (HR1.out.below hW).held hh).mono ?_
    rintro e w' ⟨⟨ov, rfl, hO⟩, hb⟩
    exact ⟨⟨ov, rfl, hO.out.row⟩, hb⟩
  have CSI : Hid (∀ (W : World) (v u : Value), Row encInt 1 W v S.held.sums → Row encInt 1 W u S.held.sums → Calls Tryz.prog 40 #[v, u] W fun e w' => e = .returned (.bool true) ∧ Below W.heap.size W w') := fun W v u h1 h2 => by
    have := sameInts_any h1 h2
    rw [decide_eq_true rfl] at this
    exact this
  have CLK : Hid (∀ W, Below w1.heap.size w1 W → Calls Tryz.prog 28 #[.pointer (some ⟨sb, 0, none⟩)] W fun e w' => (∃ ov, e = .returned ov ∧ Hid (WRow w' ov S.lock)) ∧ Below W.heap.size W w') := fun W hW => by
    refine (shopLock_any (HP1.out.below hW) hl).mono ?_
    rintro e w' ⟨⟨ov, rfl, hO⟩, hb⟩
    exact ⟨⟨ov, rfl, hO.out.arg.1⟩, hb⟩
  have CSW : Hid (∀ (W : World) (v : Value), Below w1.heap.size w1 W → WRow W v S.lock → Calls Tryz.prog 42 #[v, lv2] W fun e w' => e = .returned (.bool true) ∧ Below W.heap.size W w') := fun W v hW h1 => by
    have := sameWants_any h1 (HR1.out.below hW).lock.arg.1 (by omega)
    rw [decide_eq_true rfl] at this
    exact this
  have CRU : Hid (∀ W, Below w1.heap.size w1 W → Calls Tryz.prog 44 #[.pointer (some ⟨sb, 0, none⟩)] W fun e w' => (∃ ov, e = .returned ov ∧ Hid (RulesRow w' ov rl)) ∧ Below W.heap.size W w') := fun W hW => by
    refine (shopRules_any (HP1.out.below hW) (by omega) HSM.out).mono ?_
    rintro e w' ⟨⟨ov, rfl, hO⟩, hb⟩
    exact ⟨⟨ov, rfl, hO.out.row⟩, hb⟩
  have CSR : Hid (∀ (W : World) (v : Value), Below w1.heap.size w1 W → RulesRow W v rl → Calls Tryz.prog 43 #[v, rv2] W fun e w' => e = .returned (.bool true) ∧ Below W.heap.size W w') := fun W v hW h1 => sameRules_any h1 (HR1.out.below hW).rules.row (by omega) HSM.out
  have CTP : Hid (∀ W, Below w1.heap.size w1 W → Calls Tryz.prog 19 #[.pointer (some ⟨sb, 0, none⟩)] W fun e w' => e = .returned (.pointer (some ⟨tb, 0, none⟩)) ∧ W = w') := fun W hW => shopTape_any (HP1.out.below hW)
  have CBY : Hid (∀ W, Below w1.heap.size w1 W → Calls Tryz.prog 21 #[.pointer (some ⟨tb, 0, none⟩)] W fun e w' => e = .returned (.string bz) ∧ W = w') := fun W hW => by
    have := diskBytes_any B tb t.bytes t.off t.cut W (HP1.out.below hW).tape.1
    rw [HZ.out] at this
    exact this
  have hbb : (bz.toList == bz.toList) = true := beq_self_eq_true _
  have hdr : Below w1.heap.size w1 w1.drew := below_drewN _ w1 1
  obtain ⟨r0, r1, r2, r3, r4⟩ := KM.out w1 (Below.refl _ _)
  clear HC HP HR hb1 HZ HTZ HT1 hh hl
  go_wp2_with fail
  go_region_held3 (fun W : World => W.cell? ⟨qb, 3, none⟩ = some (.pointer (some ⟨kb, 0, none⟩)) ∧ W.cell? ⟨qb, 2, none⟩ = some lv2 ∧ W.cell? ⟨qb, 1, none⟩ = some rv2 ∧ W.cell? ⟨qb, 4, none⟩ = some (.pointer (some ⟨ub, 0, none⟩)) ∧ W.cell? ⟨ub, 0, none⟩ = some (.string bz)) (first | exact KM.out _ b8 | exact KM.out _ b7 | exact KM.out _ b6 | exact KM.out _ b5 | exact KM.out _ b4 | exact KM.out _ b3 | exact KM.out _ b2 | exact KM.out _ hdr | go_keep)
    (first
      | (go_at_call 21; refine (CBY.out _ b8).mono ?_; rintro e w9 ⟨rfl, rfl⟩)
      | (go_at_call 19; refine (CTP.out _ b8).mono ?_; rintro e w9 ⟨rfl, rfl⟩)
      | (go_at_call 43; refine (CSR.out _ _ b7 R5.out).mono ?_; rintro e w8 ⟨rfl, h8⟩; have b8 := b7.trans (h8.mono b7.size))
      | (go_at_call 44; refine (CRU.out _ b6).mono ?_; rintro e w7 ⟨⟨ov5, rfl, R5⟩, h7⟩; have b7 := b6.trans (h7.mono b6.size))
      | (go_at_call 42; refine (CSW.out _ _ b5 R3.out).mono ?_; rintro e w6 ⟨rfl, h6⟩; have b6 := b5.trans (h6.mono b5.size))
      | (go_at_call 28; refine (CLK.out _ b4).mono ?_; rintro e w5 ⟨⟨ov3, rfl, R3⟩, h5⟩; have b5 := b4.trans (h5.mono b4.size))
      | (go_at_call 40; refine (CSI.out _ _ _ (R1.out.ext h3) R2.out).mono ?_; rintro e w4 ⟨rfl, h4⟩; have b4 := b3.trans (h4.mono b3.size))
      | (go_at_call 41; refine (CS2.out _ b2).mono ?_; rintro e w3 ⟨⟨ov2, rfl, R2⟩, h3⟩; have b3 := b2.trans (h3.mono b2.size))
      | (go_at_call 25; refine (CS1.out _ hdr).mono ?_; rintro e w2 ⟨⟨ov1, rfl, R1⟩, h2⟩; have b2 := hdr.trans (h2.mono hdr.size))
      | fail)
  all_goals
    go_wp2_with fail
    go_ret
    exact ⟨rfl, HB1.out.trans (b8.mono HB1.out.size)⟩
end Go.Proofs.YtcjjbpoaojjojaaGreatDoor

namespace Go.Proofs.YtcjjbpoaojjojaaGreatDoor
open Go Go.RowKit

/-- The environment of shops. -/
structure ShEnv (E : Nat → Addr) (B : Nat) (w : World) : Prop where
  env : ∀ W, Below B w W → FtEnv E W
  low : ∀ k, k < 13 → gE k < B
theorem ShEnv.ext {E : Nat → Addr} {B : Nat} {w w' : World} (h : ShEnv E B w) (hb : Below B w w') : ShEnv E B w' := ⟨fun W hW => h.env W (hb.trans hW), h.low⟩
/-- What a deed that tells a fault hands back, and leaves. -/
def ErPost (E : Nat → Addr) (B nb sb tn : Nat) (n : NetB) (r : Er × ShopS × TapeS) (w : World) (e : Ending) (w' : World) : Prop :=
  (∃ ev, e = .returned ev ∧ Hid (IsErr E w' ev r.1)) ∧ Hid (ProgIs w' B nb sb n r.2.1 r.2.2 tn) ∧ Hid (Keeps PRow B w w')
theorem appT_le (t : TapeS) (s : List UInt8) : (appT t s).1 ≤ 13 := by
  unfold appT
  split
  · exact Nat.le_of_ble_eq_true rfl
  · split
    · exact Nat.le_of_ble_eq_true rfl
    · show (if _ then 0 else 13) ≤ 13
      split <;> exact Nat.le_of_ble_eq_true rfl

end Go.Proofs.YtcjjbpoaojjojaaGreatDoor

namespace Go.Proofs.YtcjjbpoaojjojaaGreatDoor
open Go Go.RowKit

def wWantB : ByteArray := ⟨#[119, 97, 110, 116, 32]⟩
theorem bl_wwant (s : ByteArray) : bl (wWantB ++ s) = recW wWant (bl s) := by rw [bl_append]; rfl
theorem wantS_no {S : ShopS} {t : TapeS} {x : WantB} (h : (setLk S.lock x).1.code ≠ 0) : wantS S t x = ((setLk S.lock x).1, S, t) := by unfold wantS; rw [if_pos h]
theorem wantS_full {S : ShopS} {t : TapeS} {x : WantB} (h : (setLk S.lock x).1.code = 0) (h2 : (appT t (recW wWant (wantTx x))).1 ≠ 0) : wantS S t x = (⟨(appT t (recW wWant (wantTx x))).1, none⟩, S, (appT t (recW wWant (wantTx x))).2) := by unfold wantS; rw [if_neg (by omega), if_pos h2]
theorem wantS_done {S : ShopS} {t : TapeS} {x : WantB} (h : (setLk S.lock x).1.code = 0) (h2 : (appT t (recW wWant (wantTx x))).1 = 0) : wantS S t x = (⟨0, none⟩, { S with lock := (setLk S.lock x).2 }, (appT t (recW wWant (wantTx x))).2) := by unfold wantS; rw [if_neg (by omega), if_neg (by omega)]
theorem wantTx_size {x : WantB} (h : SmallW x) {t : ByteArray} (ht : bl t = wantTx x) : t.size ≤ 200000 := by
  have h1 := wantTx_len x
  rw [← ht, bl_length] at h1
  obtain ⟨a, b, c⟩ := h
  omega
set_option maxHeartbeats 4000000 in
set_option maxRecDepth 100000 in
theorem shopWant_any {E : Nat → Addr} (B nb sb tn : Nat) (n : NetB) (S : ShopS) (t : TapeS) (x : WantB) (w : World) (h : ProgIs w B nb sb n S t tn) (hl : S.lock.length ≤ 10000) (hS : ∀ f ∈ S.lock, SmallW f) (hx : SmallW x) (hBw : B ≤ w.heap.size) (hE : ShEnv E B w) :
    Calls Tryz.prog 30 #[.pointer (some ⟨sb, 0, none⟩), .agg #[.string x.name, .string x.url, .string x.kind, .int .i64 x.strip, .int .i64 x.sum]] w (ErPost E B nb sb tn n (wantS S t x) w) := by
  obtain ⟨px, hpx⟩ : ∃ px, w.heap.size = px := ⟨_, rfl⟩
  obtain ⟨wx, hwx⟩ : ∃ wx, w.alloc (.cells #[.string x.name, .string x.url, .string x.kind, .int .i64 x.strip, .int .i64 x.sum] 60) = wx := ⟨_, rfl⟩
  have hbx : Below w.heap.size w wx := by rw [← hwx]; exact (Below.refl _ _).alloc (Nat.le_refl _) _
  have BX := Lib.hid (show WBox wx px x by rw [← hwx, ← hpx]; exact WBox.new w x)
  obtain ⟨hb, tb, rv, lv, rl, hA⟩ := h
  have HAx := Lib.hid (hA.below hbx)
  have HE := Lib.hid hE
  have HX := Lib.hid hx
  have HWX := Lib.hid hwx
  have HPX := Lib.hid hpx
  have hbxB := hbx.mono hBw
  have HBX := Lib.hid hbxB
  have KX := Lib.hid (show Keeps PRow B w wx from Keeps.of hbx hBw)
  have hBwx : B ≤ wx.heap.size := Nat.le_trans hBw hbx.size
  have hdr : Below wx.heap.size wx wx.drew := below_drewN _ _ 1
  have C := lockSet_any lv S.lock x wx.drew (HAx.out.below hdr).lock.arg hl hS hx (hE.env wx.drew (hbxB.trans (hdr.mono hBwx))).1.1.1
  obtain ⟨r, hr⟩ : ∃ r, setLk S.lock x = r := ⟨_, rfl⟩
  have KN := Lib.hid (@wantS_no S t x)
  have KF := Lib.hid (@wantS_full S t x)
  have KO := Lib.hid (@wantS_done S t x)
  rw [hr] at C KN KF KO
  obtain ⟨er, l2⟩ := r
  unfold LSetPost at C
  dsimp only at C KN KF KO
  have HC := Lib.hid C
  have K0 : Hid (∀ W, Below wx.heap.size wx W → W.cell? ⟨sb, 2, none⟩ = some lv ∧ W.cell? ⟨px, 0, none⟩ = some (.string x.name) ∧ W.cell? ⟨px, 1, none⟩ = some (.string x.url) ∧ W.cell? ⟨px, 2, none⟩ = some (.string x.kind) ∧ W.cell? ⟨px, 3, none⟩ = some (.int .i64 x.strip) ∧ W.cell? ⟨px, 4, none⟩ = some (.int .i64 x.sum)) := fun W hW => ⟨(HAx.out.below hW).cells.2.2.1, (BX.out.ext hW).cells⟩
  clear C hr hA hE hx hwx hpx hbx hbxB
  obtain ⟨c2, b0, b1, b2, b3, b4⟩ := K0.out wx (Below.refl _ _)
  go_enter Tryz.func30, Tryz.ntmps30
  go_upto_region 1 with fail
  rw [HWX.out, HPX.out]
  go_region_held3 (fun W : World => W.cell? ⟨sb, 2, none⟩ = some lv ∧ W.cell? ⟨px, 0, none⟩ = some (.string x.name) ∧ W.cell? ⟨px, 1, none⟩ = some (.string x.url) ∧ W.cell? ⟨px, 2, none⟩ = some (.string x.kind) ∧ W.cell? ⟨px, 3, none⟩ = some (.int .i64 x.strip) ∧ W.cell? ⟨px, 4, none⟩ = some (.int .i64 x.sum)) (first | exact ⟨c2, b0, b1, b2, b3, b4⟩ | exact K0.out _ hdr | exact K0.out _ hb1x)
    (first
      | (go_at_call 80; refine HC.out.mono ?_; rintro e w1 ⟨⟨v1, ev, rfl, HI, HO⟩, hb1⟩; obtain ⟨oa, oc, rfl⟩ := WOwn.shape HO.out; have hb1x := hdr.trans (hb1.mono hdr.size))
      | fail)
  all_goals
    have HA1 := Lib.hid (HAx.out.below hb1x)
    have BX1 := Lib.hid (BX.out.ext hb1x)
    have hbB := HBX.out.trans (hb1x.mono hBwx)
    have hB1 : B ≤ w1.heap.size := Nat.le_trans hBwx hb1x.size
    have K1 : Hid (Keeps PRow B w w1) := KX.out.trans (Keeps.of hb1x hBwx)
    have HO1 : Hid (WOwn w1 B (.slice oa l2.length oc) l2) := WOwn.low HO.out hBwx
    clear hb1 HO HC K0 c2 b0 b1 b2 b3 b4 hdr
    by_cases hz : er.code = 0
    · obtain rfl : ev = .nilIface := HI.out.zero hz
      have K2 : Hid (∀ W, Below w1.heap.size w1 W → W.cell? ⟨sb, 4, none⟩ = some (.pointer (some ⟨tb, 0, none⟩)) ∧ W.cell? ⟨px, 0, none⟩ = some (.string x.name) ∧ W.cell? ⟨px, 1, none⟩ = some (.string x.url) ∧ W.cell? ⟨px, 2, none⟩ = some (.string x.kind) ∧ W.cell? ⟨px, 3, none⟩ = some (.int .i64 x.strip) ∧ W.cell? ⟨px, 4, none⟩ = some (.int .i64 x.sum)) := fun W hW => ⟨(HA1.out.below hW).cells.2.2.2.2, (BX1.out.ext hW).cells⟩
      have HTX : Hid (∀ W, Below w1.heap.size w1 W → Calls Tryz.prog 82 #[.agg #[.string x.name, .string x.url, .string x.kind, .int .i64 x.strip, .int .i64 x.sum]] W fun e w' => (∃ tx : ByteArray, e = .returned (.string tx) ∧ Hid (bl tx = wantTx x) ∧ ¬ (9223372036854775807 < 5 + tx.size)) ∧ Below w1.heap.size w1 w') := fun W hW => by
        refine (wantText_any x W (by have := HX.out.1; omega) (by have := HX.out.2.1; omega) (by have := HX.out.2.2; omega) (HE.out.env W (hbB.trans (hW.mono hB1))).1.1).mono ?_
        rintro e w' ⟨⟨tx, rfl, htx⟩, hb⟩
        exact ⟨⟨tx, rfl, htx, by have := wantTx_size HX.out htx.out; omega⟩, hW.trans (hb.mono hW.size)⟩
      have hle := appT_le t (recW wWant (wantTx x))
      have CA : ∀ (W : World) (tx : ByteArray), Below w1.heap.size w1 W → bl tx = wantTx x → Calls Tryz.prog 81 #[.pointer (some ⟨tb, 0, none⟩), .string (wWantB ++ tx)] W (TAppPost E B tb (appT t (recW wWant (wantTx x))) W) := fun W tx hW htx => by
        have hWB := hbB.trans (hW.mono hB1)
        have := tapeApp_any B tb t (wWantB ++ tx) W (HA1.out.below hW).tape (Nat.le_trans hB1 hW.size) (HE.out.env W hWB).1.1.2 (HE.out.env W hWB).env HE.out.low
        rwa [bl_wwant, htx] at this
      obtain ⟨ar, har⟩ : ∃ ar, appT t (recW wWant (wantTx x)) = ar := ⟨_, rfl⟩
      have hkf := KF.out hz
      have hko := KO.out hz
      rw [har] at CA hle hkf hko
      obtain ⟨ac, at2⟩ := ar
      unfold TAppPost at CA
      dsimp only at CA hle hkf hko
      unfold wWantB at CA
      have HCA := Lib.hid CA
      have HKF := Lib.hid hkf
      have HKO := Lib.hid hko
      have hd1 : Below w1.heap.size w1 w1.drew := below_drewN _ _ 1
      obtain ⟨c4, b0, b1, b2, b3, b4⟩ := K2.out w1 (Below.refl _ _)
      clear CA har hz KN KF KO HI hkf hko
      go_wp2_with fail
      go_region_held3 (fun W : World => W.cell? ⟨sb, 4, none⟩ = some (.pointer (some ⟨tb, 0, none⟩)) ∧ W.cell? ⟨px, 0, none⟩ = some (.string x.name) ∧ W.cell? ⟨px, 1, none⟩ = some (.string x.url) ∧ W.cell? ⟨px, 2, none⟩ = some (.string x.kind) ∧ W.cell? ⟨px, 3, none⟩ = some (.int .i64 x.strip) ∧ W.cell? ⟨px, 4, none⟩ = some (.int .i64 x.sum)) (first | exact ⟨c4, b0, b1, b2, b3, b4⟩ | exact K2.out _ hd1 | exact K2.out _ hb2 | exact d3)
        (first
          | (go_at_call 81; refine (HCA.out _ _ hb2 HTT.out).mono ?_; rintro e w3 ⟨rfl, ht3, hk3⟩; have hk3w := hk3; have d3 := And.intro ((HA1.out.below hb2).turnTape hk3 ht3).cells.2.2.2.2 (show WBox w3 px x from hk3.keep px _ (BX1.out.ext hb2) (kt_other _ (by decide) (by decide) _ _)).cells)
          | (go_at_call 82; refine (HTX.out _ hd1).mono ?_; rintro e w2 ⟨⟨tx, rfl, HTT, hcat⟩, hb2⟩)
          | fail)
      all_goals
        have HA3 := Lib.hid ((HA1.out.below hb2).turnTape hk3 ht3)
        have K3 := Lib.hid ((K1.out.trans (Keeps.of hb2 hB1)).trans hk3.p_tape)
        have HO3 : Hid (WOwn w3 B (.slice oa l2.length oc) l2) := hk3.owns (WOwn.ext HO1.out hb2) (fun cs => kt_other _ (by decide) (by decide) cs _)
        have hB3 : B ≤ w3.heap.size := Nat.le_trans hB1 (Nat.le_trans hb2.size hk3.below.size)
        obtain ⟨c0, c1, c2, c3, c4'⟩ := HA3.out.cells
        have f2 := HA3.out.froz 2
        clear ht3 hk3 hk3w d3 HTX HCA K2 HTT hb2 c4 b0 b1 b2 b3 b4
        cases ac with
        | zero =>
          have HY := Lib.hid (HKO.out rfl)
          rw [show errV E 0 = .nilIface from rfl]
          have HA4 := Lib.hid (HA3.out.setLock HO3.out hB3)
          have HK4 := Lib.hid (K3.out.trans (HA3.out.store 2 (.slice oa l2.length oc) hB3).p_shop)
          clear HKF HKO
          go_wp2_with fail
          go_ret
          rw [HY.out]
          exact ⟨⟨_, rfl, .inl ⟨rfl, rfl⟩⟩, ⟨_, _, _, _, _, HA4.out⟩, HK4⟩
        | succ ac =>
          have HY := Lib.hid (HKF.out (Nat.succ_ne_zero _))
          rw [show errV E (ac + 1) = sentV E ac from rfl]
          clear HKF HKO
          go_wp2_with fail
          go_ret
          rw [HY.out]
          exact ⟨⟨_, rfl, errV_is hle⟩, ⟨_, _, _, _, _, HA3.out⟩, K3⟩
    · have HY := Lib.hid (KN.out hz)
      obtain ⟨ty, y, rfl⟩ := HI.out.some_inv hz
      clear hz KN KF KO
      go_wp2_with fail
      go_ret
      rw [HY.out]
      exact ⟨⟨_, rfl, HI⟩, ⟨_, _, _, _, _, HA1.out⟩, K1⟩
end Go.Proofs.YtcjjbpoaojjojaaGreatDoor

namespace Go.Proofs.YtcjjbpoaojjojaaGreatDoor
open Go Go.RowKit

def lockedW : WantB := ⟨⟨#[97]⟩, ⟨#[104, 116, 116, 112, 58, 47, 47, 104, 47, 120]⟩, ⟨#[112, 108, 97, 105, 110]⟩, 0, 7⟩
theorem locked_fine : wantE lockedW = 0 := by decide +kernel
theorem locked_set : setLk [] lockedW = (⟨0, none⟩, [lockedW]) := by
  rw [setLk_from (l := []) rfl locked_fine]
  rfl
theorem locked_small : SmallW lockedW := ⟨by decide, by decide, by decide⟩
end Go.Proofs.YtcjjbpoaojjojaaGreatDoor

namespace Go.Proofs.YtcjjbpoaojjojaaGreatDoor
open Go Go.RowKit

def shopTx : ByteArray := ⟨#[97, 32, 104, 116, 116, 112, 58, 47, 47, 104, 47, 120, 32, 112, 108, 97, 105, 110, 32, 48, 32, 115, 55]⟩
def shopRec : ByteArray := ⟨#[50, 56, 58, 119, 97, 110, 116, 32, 97, 32, 104, 116, 116, 112, 58, 47, 47, 104, 47, 120, 32, 112, 108, 97, 105, 110, 32, 48, 32, 115, 55, 10, 46]⟩
theorem shop_tx : wantTx lockedW = bl shopTx := by
  have h0 : Lib.decDigits 0 = [48] := decDigits_small (by decide)
  have h7 : Lib.decDigits 7 = [55] := decDigits_small (by decide)
  unfold wantTx
  rw [if_neg (by rw [locked_fine]; simp)]
  rw [show (lockedW).strip.toNat = 0 from rfl, show (lockedW).sum.toNat = 7 from rfl, h0, h7]
  rfl
theorem shop_rec : recL (recW wWant (wantTx lockedW)) = bl shopRec := by
  have h28 : Lib.decDigits 28 = [50, 56] := by
    rw [decDigits_step (by decide), show 28 / 10 = 2 from rfl, decDigits_small (by decide)]
    rfl
  rw [shop_tx]
  unfold recL
  rw [show (recW wWant (bl shopTx)).length = 28 from rfl, h28]
  rfl
theorem shop_app : appT ⟨[], false, -1⟩ (recW wWant (wantTx lockedW)) = (0, ⟨bl shopRec, false, -1⟩) := by
  unfold appT
  rw [shop_rec, shop_tx]
  rw [if_neg (by decide), if_neg (by decide)]
  have hw : WroteL [] false (-1) (bl shopRec) = (bl shopRec, false, -1, true) := by
    unfold WroteL
    rw [if_neg (by simp), if_neg (by omega), if_neg (by omega)]
    rfl
  show (if (WroteL [] false (-1) (bl shopRec)).2.2.2 = true then 0 else 13, _) = _
  rw [hw]
  rfl
theorem shop_want : wantS emptyS ⟨[], false, -1⟩ lockedW = (⟨0, none⟩, { emptyS with lock := [lockedW] }, ⟨bl shopRec, false, -1⟩) := by
  have h1 : setLk emptyS.lock lockedW = (⟨0, none⟩, [lockedW]) := locked_set
  rw [wantS_done (by rw [h1]) (by rw [shop_app]), h1, shop_app]

set_option maxHeartbeats 2000000 in
set_option maxRecDepth 100000 in
theorem shopped_any {E : Nat → Addr} (w : World) (hE : FtEnv E w) :
    Calls Tryz.prog 6 #[] w fun e w' => e = .returned (.bool true) ∧ Below w.heap.size w w' := by
  have HE := Lib.hid hE
  obtain ⟨B, hB⟩ : ∃ B, w.heap.size = B := ⟨_, rfl⟩
  have C := Lib.hid (netNew_any w)
  have HBE := Lib.hid hB
  have HG : Hid (∀ k, k < 13 → gE k < B) := fun k hk => by rw [← hB]; exact gE_lt hE.env k hk
  have HBX : Hid (Below w.heap.size w w) := Below.refl _ _
  rw [hB] at HBX
  clear hE hB
  go_enter Tryz.func6, Tryz.ntmps6
  go_wp2_with fail
  refine C.out.mono ?_
  clear C
  rintro e w1 ⟨nb, rfl, hn, hb1⟩
  rw [HBE.out] at hn hb1
  have hB1 : B ≤ w1.heap.size := below_size hb1 (Nat.le_of_eq HBE.out.symm)
  have C := Lib.hid (shopNew_any B nb 0 _ w1 hn hB1)
  clear hn
  go_wp2_with fail
  refine C.out.mono ?_
  clear C
  rintro e w2 ⟨sb, rfl, HP, hb2⟩
  have hb12 := hb1.trans (hb2.mono hB1)
  have hB2 : B ≤ w2.heap.size := Nat.le_trans hB1 hb2.size
  have C := shopWant_any (E := E) B nb sb 0 _ emptyS ⟨[], false, -1⟩ lockedW w2 HP.out (by decide) (by intro f hf; cases hf) locked_small hB2 ⟨fun W hW => HE.out.ext (by rw [HBE.out]; exact hb12.trans hW), HG.out⟩
  rw [shop_want] at C
  obtain ⟨S1, hS1⟩ : ∃ S1 : ShopS, { emptyS with lock := [lockedW] } = S1 := ⟨_, rfl⟩
  rw [hS1] at C
  have hlen : S1.lock.length = 1 := by rw [← hS1]; rfl
  have HSU : Hid (∀ h : 0 < S1.lock.length, S1.lock[0].sum = 7) := fun h => by subst hS1; rfl
  have HLE := Lib.hid hlen
  have HC := Lib.hid C
  unfold lockedW at HC
  clear C hb1 hb2 hS1 hlen
  go_wp2_with fail
  refine HC.out.mono ?_
  clear HC
  rintro e w3 ⟨⟨ev, rfl, HI⟩, HP3, HK3⟩
  obtain rfl : ev = .nilIface := HI.out.zero rfl
  obtain ⟨hb, tb, rv, lv, rl, hA⟩ := HP3.out
  have hb3 := hb12.trans HK3.out.below
  have hB3 : B ≤ w3.heap.size := Nat.le_trans hB2 HK3.out.below.size
  have HA := Lib.hid hA
  have C := Lib.hid (shopLock_any hA (by rw [HLE.out]; omega))
  clear hA HP3 HI HK3 HP
  go_wp2_with fail
  refine C.out.mono ?_
  clear C
  rintro e w4 ⟨⟨v, rfl, HV⟩, hb4⟩
  have HW := HV.out.arg.1
  obtain ⟨ao, cap, rfl, r1, r2, r3⟩ := HW
  have h01 : 0 < S1.lock.length := by rw [HLE.out]; decide
  obtain ⟨g, off, rfl, hg, hc⟩ := r3 0 h01
  have q4 : w4.cell? ⟨g, off + 4, none⟩ = some (.int .i64 7) := by
    have := (hc 0 h01).2.2.2.2
    rw [HSU.out h01] at this
    simpa using this
  have h1c : 1 ≤ cap := by have := HLE.out; omega
  rw [HLE.out]
  have HA4 := Lib.hid (HA.out.below hb4)
  have CT := Lib.hid (shopTape_any HA4.out)
  have CB := diskBytes_any B tb (bl shopRec) false (-1) w4 HA4.out.tape.1
  rw [show (⟨(bl shopRec).toArray⟩ : ByteArray) = shopRec from rfl] at CB
  have HCB := Lib.hid CB
  unfold shopRec at HCB
  have hbz := Lib.hid (hb3.trans (hb4.mono hB3))
  clear CB hc r3 HV HA4 HA r1 h01 HSU HLE
  go_wp2_with (first
    | (go_at_call 19; refine CT.out.mono ?_; rintro e w5 ⟨rfl, rfl⟩)
    | (go_at_call 21; refine HCB.out.mono ?_; rintro e w5 ⟨rfl, rfl⟩))
  go_ret
  exact ⟨rfl, by rw [HBE.out]; exact hbz.out⟩
end Go.Proofs.YtcjjbpoaojjojaaGreatDoor

namespace Go.Proofs.YtcjjbpoaojjojaaGreatDoor
open Go Go.RowKit Go.ChangeShapes Go.WideShapes Go.Deep

/-- Texts that came in. -/
def TxArg (w : World) (v : Value) (l : List ByteArray) : Prop :=
  ∃ ao cap, v = .slice ao l.length cap ∧ l.length ≤ cap ∧ cap ≤ maxLen ∧ (∀ i, i < l.length → ∃ b off, ao = some ⟨b, off, none⟩ ∧ b < w.heap.size ∧ ∀ k, (hk : k < l.length) → w.cell? ⟨b, off + k, none⟩ = some (.string l[k]))
theorem TxArg.ext {w w' : World} {v : Value} {l : List ByteArray} (h : TxArg w v l) (hb : Below w.heap.size w w') : TxArg w' v l := by
  obtain ⟨ao, cap, h1, h2, h3, h4⟩ := h
  refine ⟨ao, cap, h1, h2, h3, fun i hi => ?_⟩
  obtain ⟨b, off, e, hbl, hc⟩ := h4 i hi
  exact ⟨b, off, e, Nat.lt_of_lt_of_le hbl hb.size, fun k hk => by rw [hb.cell (p := ⟨b, off + k, none⟩) hbl]; exact hc k hk⟩
theorem TxArg.len {w : World} {v : Value} {l : List ByteArray} (h : TxArg w v l) : ∃ ao cap, v = .slice ao l.length cap := by
  obtain ⟨ao, cap, e, _⟩ := h
  exact ⟨ao, cap, e⟩
theorem TxArg.at {w : World} {ao : Option Addr} {n cap k : Nat} {l : List ByteArray} (h : TxArg w (.slice ao n cap) l) (hk : k < l.length) : ∃ b off, ao = some ⟨b, off, none⟩ ∧ b < w.heap.size ∧ w.cell? ⟨b, off + k, none⟩ = some (.string l[k]) := by
  obtain ⟨ao', cap', e, _, _, h4⟩ := h
  injection e with e0 _ _
  subst e0
  obtain ⟨b, off, e, hbl, hc⟩ := h4 k hk
  exact ⟨b, off, e, hbl, hc k hk⟩
theorem Tryz.cellsStrA : Tryz.prog.cellsOf 9 = 1 := by kernel_rfl
section
variable {H : Type} {enc : TypeId × Value → H} {W : World} {spare : Nat → Bool} {held : Bool}
theorem open_tx {fuel : Nat} {v : Value} {x : DataW H × List MemPlace} (h : DataW.trod enc Tryz.prog W 0 spare held fuel 22 [v] = some x) : ∃ zs : List ByteArray, TxArg W v zs := by
  rcases open_strs Tryz.underlying22 Tryz.underlying9 Tryz.cellsStrA h with ⟨hcs, hx⟩ | ⟨a, len, cap, m, Sx, hcs, _, hl, hm, hmm, hx, hcell⟩
  · obtain rfl : v = .slice none 0 0 := by simpa using hcs
    exact ⟨[], none, 0, rfl, Nat.le_refl _, Nat.zero_le _, fun i hi => absurd hi (Nat.not_lt_zero _)⟩
  · obtain rfl : v = .slice (some a) len cap := by simpa using hcs
    have hlm : len ≤ m := by rw [hmm]; split <;> omega
    refine ⟨(List.range len).map Sx, some a, cap, by simp, by simp; omega, hm, fun i hi => ?_⟩
    simp only [List.length_map, List.length_range] at hi
    have hc0 := (hcell i (by omega)).1
    obtain ⟨b, off, spot⟩ := a
    have hspot : spot = none := World.cell?_spot (a := ⟨b, off, spot⟩) (hcell 0 (by omega)).1
    subst hspot
    refine ⟨b, off, rfl, by rw [add_plain] at hc0; exact World.block_lt_of_cell? W _ hc0, fun k hk => ?_⟩
    simp only [List.length_map, List.length_range] at hk
    have := (hcell k (by omega)).1
    rw [add_plain] at this
    simpa using this
set_option maxRecDepth 100000 in
theorem open_texts_arg {v : Value} {d : DataW H} {p : List MemPlace} {r : Reach} {base : Nat} (hok : Value.okWide Tryz.prog W r base 22 v) (h : DataW.Trod enc Tryz.prog W 0 spare held 22 v d p) : ∃ l : List ByteArray, TxArg W v l := by
  obtain ⟨a, len, cap, rfl⟩ := okWide_slice Tryz.underlying22 hok
  obtain ⟨fuel, hf⟩ := h
  exact open_tx hf
end
end Go.Proofs.YtcjjbpoaojjojaaGreatDoor

namespace Go.Proofs.YtcjjbpoaojjojaaGreatDoor
open Go Go.RowKit

theorem rnet_new (w : World) (B : Nat) (hB : B ≤ w.heap.size) : RNetIs (w.alloc (.cells #[.slice none 0 0, .slice none 0 0, .int .i64 0] 44)) B w.heap.size ⟨[], [], 0⟩ :=
  ⟨.slice none 0 0, .slice none 0 0, hB, heap_alloc_new _ _, World.ownsRow_nil _ _ _ _, World.ownsRow_nil _ _ _ _⟩
theorem faultB3_self (er : Er) (c a : Int) (h1 : (er.code : Int) = c) (h2 : er.at?.getD (-1) = a) : faultB3 er c a = true := by subst h1 h2; simp [faultB3]
theorem kq_tape (T : TypeId) (h1 : T ≠ 47) (cs : Array Value) (fz : Nat × Nat) : ¬ RTapeRow (.cells cs T fz) := fun ⟨_, _, h⟩ => by injection h with _ h _; exact h1 h
theorem NetIs.low {w : World} {B B2 b t : Nat} {n : NetB} (h : NetIs w B b n t) (hB : B2 ≤ B) : NetIs w B2 b n t := by
  obtain ⟨h0, bt, bo, bc, mo, mc, fo, hA⟩ := h
  exact ⟨h0, bt, bo, bc, mo, mc, fo, { hA with hb := Nat.le_trans hB hA.hb, ht := Nat.le_trans hB hA.ht, ho := Nat.le_trans hB hA.ho, hc := Nat.le_trans hB hA.hc }⟩
theorem IsErr.but {E : Nat → Addr} {w w' : World} {v : Value} {er : Er} {m : Nat} (h : IsErr E w v er) (hb : But m w w') (hm : ∃ s, w.cell? ⟨m, 0, none⟩ = some (.string s)) : IsErr E w' v er := by
  rcases h with h | h | ⟨k, a', b, hk, h1, h2, h3, h4⟩
  · exact .inl h
  · exact .inr (.inl h)
  · have hne : b ≠ m := by
      rintro rfl
      obtain ⟨s, hs⟩ := hm
      rw [hs] at h3
      cases h3
    have hlt := Lib.lt_of_cell h3
    exact .inr (.inr ⟨k, a', b, hk, h1, h2, by rw [hb.cell (p := ⟨b, 0, none⟩) hlt hne]; exact h3, by rw [hb.cell (p := ⟨b, 1, none⟩) hlt hne]; exact h4⟩)
set_option maxHeartbeats 8000000 in
set_option maxRecDepth 100000 in
theorem shopOpens_walk {E : Nat → Addr} {w : World} (hE : FtEnv E w) (v : Value) (l : List ByteArray) (more : ByteArray) (hv : TxArg w v l) :
    Calls Tryz.prog 3 #[v, .string more] w fun e w' => e = .returned (.bool true) ∧ Below w.heap.size w w' := by
  have HE := Lib.hid hE
  have HV := Lib.hid hv
  obtain ⟨B, hB⟩ : ∃ B, w.heap.size = B := ⟨_, rfl⟩
  have HBE := Lib.hid hB
  have C := Lib.hid (shopped_any w hE)
  obtain ⟨ao, cap, rfl⟩ := hv.len
  clear hE hv hB
  go_enter Tryz.func3, Tryz.ntmps3
  go_wp2_with fail
  refine C.out.mono ?_
  clear C
  rintro e w1 ⟨rfl, hb1⟩
  by_cases hl30 : l.length ≤ 30
  rotate_left
  · have hd : decide ((l.length : Int) > 30) = true := decide_eq_true (by omega)
    go_wp2_with fail
    go_ret
    exact ⟨rfl, hb1⟩
  by_cases hm100 : more.size ≤ 100
  rotate_left
  · go_wp2_with fail
    go_ret
    exact ⟨rfl, hb1⟩
  go_wp2_with fail
  go_loopw [6, 7] (fun b i wr => ∃ (k : Nat) (z : ByteArray), k ≤ l.length ∧ i = .int .i64 k ∧ b = .string z ∧ z.size ≤ 2030 * k ∧ Below w.heap.size w wr) (fun _ i _ => l.length - (intOf i).toNat)
  case atStart => exact ⟨0, ⟨#[]⟩, Nat.zero_le _, rfl, rfl, Nat.le_refl _, hb1⟩
  case round =>
    clear hb1
    obtain ⟨k, z, hk, rfl, rfl, hz, hb⟩ := hrel
    by_cases hlt : k < l.length
    · obtain ⟨ab, aoff, rfl, habl, cl⟩ := HV.out.at hlt
      rw [← hb.cell (p := ⟨ab, aoff + k, none⟩) habl] at cl
      obtain ⟨s, hs⟩ : ∃ s, l[k] = s := ⟨_, rfl⟩
      rw [hs] at cl
      clear hs
      by_cases hs2 : s.size ≤ 2000
      rotate_left
      · go_wp2_with fail
        go_ret
        exact ⟨rfl, hb⟩
      have hrl : (recL (bl s)).length ≤ 2030 := by
        have h1 := recL_len (bl s)
        have h2 := decDigits_len_le 4 (bl s).length (by rw [bl_length]; omega)
        rw [bl_length] at h1 h2
        omega
      have C := Lib.hid (refRecord_any s wr (by omega))
      go_wp2_with fail
      refine C.out.mono ?_
      clear C
      rintro e w2 ⟨⟨x, rfl, HX, hx⟩, hb2⟩
      have hbz := hb.trans (hb2.mono hb.size)
      have hsz : (z ++ x).size = z.size + x.size := ByteArray.size_append
      have hx2 : x.size ≤ 2030 := by omega
      have hcat : ¬ (9223372036854775807 < z.size + x.size) := by omega
      have hzz : (z ++ x).size ≤ 2030 * (k + 1) := by omega
      clear hx hrl hb2 hsz
      go_wp2_with fail
      go_roundw
      case rel => exact ⟨k + 1, z ++ x, by omega, by go_num, rfl, hzz, hbz⟩
      case measure => simp [intOf]; omega
    · obtain rfl : k = l.length := by omega
      obtain ⟨w1, hw1⟩ : ∃ w1, w1 = wr := ⟨_, rfl⟩
      subst hw1
      have hsz : (z ++ more).size = z.size + more.size := ByteArray.size_append
      have hcat : ¬ (9223372036854775807 < z.size + more.size) := by omega
      obtain ⟨zz, hzz⟩ : ∃ zz, z ++ more = zz := ⟨_, rfl⟩
      have hz1 : zz.size ≤ 1048576 := by rw [← hzz]; omega
      have HZZ := Lib.hid hzz
      have HB0 := Lib.hid hb
      have hbB : Below B w w1 := by rw [← HBE.out]; exact hb
      have hB1 : B ≤ w1.heap.size := by rw [← HBE.out]; exact hb.size
      have C := newDisk_any (z ++ more) w1 (by rw [hzz]; exact hz1)
      rw [hzz] at C
      have HC := Lib.hid C
      have HG : Hid (∀ k, k < 13 → gE k < B) := fun k hk => by rw [← HBE.out]; exact gE_lt HE.out.env k hk
      have HEB : Hid (∀ W, Below B w W → FtEnv E W) := fun W hW => HE.out.ext (by rw [HBE.out]; exact hW)
      clear C hsz hz hb hzz
      go_wp2_with fail
      rw [HZZ.out]
      refine HC.out.mono ?_
      clear HC
      rintro e w2 ⟨tb, rfl, hd2, hb2⟩
      have HT2 : Hid (TapeIs w2 B tb ⟨bl zz, false, -1⟩) := TapeIs.low (B := w1.heap.size) ⟨hd2, by show (bl zz).length ≤ _; rw [bl_length]; exact hz1, by show (-1 : Int) ≤ -1 ∧ (-1 : Int) ≤ _; omega⟩ hB1
      have hb2B := hbB.trans (hb2.mono hB1)
      have hB2 : B ≤ w2.heap.size := Nat.le_trans hB1 hb2.size
      have C := Lib.hid (netNew_any w2)
      clear hd2 hb2
      go_wp2_with fail
      refine C.out.mono ?_
      clear C
      rintro e w3 ⟨nb, rfl, hn3, hb3⟩
      have HN3 := Lib.hid (NetIs.low hn3 hB2)
      have hT3 := Lib.hid (HT2.out.below hb3)
      have hb3B := hb2B.trans (hb3.mono hB2)
      have hB3 : B ≤ w3.heap.size := Nat.le_trans hB2 hb3.size
      have C := Lib.hid (openNil1_any (E := E) (some ⟨tb, 0, none⟩) w3 (HEB.out w3 hb3B).env)
      clear hn3 hb3 HT2
      go_wp2_with fail
      refine C.out.mono ?_
      clear C
      rintro e w4 ⟨rfl, hb4⟩
      have hb4B := hb3B.trans (hb4.mono hB3)
      have hB4 : B ≤ w4.heap.size := Nat.le_trans hB3 hb4.size
      have C := Lib.hid (openNil2_any (E := E) ⟨nb, 0, none⟩ w4 (HEB.out w4 hb4B).env)
      go_wp2_with fail
      refine C.out.mono ?_
      clear C
      rintro e w5 ⟨rfl, hb5⟩
      have hb35 := hb4.trans (hb5.mono hb4.size)
      have hb5B := hb3B.trans (hb35.mono hB3)
      have hB5 : B ≤ w5.heap.size := Nat.le_trans hB3 hb35.size
      have CC : Hid (∀ W, Below B w W → Calls Tryz.prog 11 #[sentV E 2, .int .i64 3] W fun e w' => e = .returned (.bool true) ∧ Below W.heap.size W w') := fun W hW => errCoded3 (c := 3) (HEB.out W hW).env (by decide)
      clear hb4 hb5
      go_wp2_with fail
      refine (CC.out w5 hb5B).mono ?_
      rintro e w6 ⟨rfl, hb6⟩
      have hb6B := hb5B.trans (hb6.mono hB5)
      go_wp2_with fail
      refine (CC.out w6 hb6B).mono ?_
      rintro e w7 ⟨rfl, hb7⟩
      have hb37 := (hb35.trans (hb6.mono hb35.size)).trans (hb7.mono (Nat.le_trans hb35.size hb6.size))
      have HN7 := Lib.hid (HN3.out.below hb37)
      have HT7 := Lib.hid (hT3.out.below hb37)
      have hb7B := hb3B.trans (hb37.mono hB3)
      have hB7 : B ≤ w7.heap.size := Nat.le_trans hB3 hb37.size
      have C := shopOpen_any (E := E) B nb tb 0 _ ⟨bl zz, false, -1⟩ w7 HN7.out HT7.out hB7 (fun W hW => HEB.out W (hb7B.trans hW))
      have hheld := openGo_held (tapeL (bl zz)) 0 emptyS (newH_ok 40)
      rw [show openGo 0 emptyS (tapeL (bl zz)) = openS (bl zz) from rfl] at hheld
      have COP : Hid (∀ (W : World) (m ub : Nat), RTapeS W ub ⟨bl zz, false, -1⟩ → B ≤ ub → B ≤ W.heap.size → Below B w W → Calls Tryz.prog 12 #[.pointer (some ⟨m, 0, none⟩), .pointer (some ⟨ub, 0, none⟩)] W (ROpenPost w B ub (some ⟨m, 0, none⟩) (openS (bl zz)) (recT ⟨bl zz, false, -1⟩) W)) := fun W m ub h1 h2 h3 h4 =>
        refOpen_any (W0 := w) B ub (some ⟨m, 0, none⟩) ⟨bl zz, false, -1⟩ W h1 h2 h3 (by rw [HBE.out]; exact h4) (Nat.le_of_eq HBE.out)
      obtain ⟨r, hr⟩ : ∃ r, openS (bl zz) = r := ⟨_, rfl⟩
      dsimp only at C
      rw [hr] at C hheld COP
      obtain ⟨tz, htz⟩ : ∃ tz, recT ⟨bl zz, false, -1⟩ = tz := ⟨_, rfl⟩
      rw [htz] at C COP
      obtain ⟨er, S⟩ := r
      dsimp only at hheld
      have HC := Lib.hid C
      have HHE := Lib.hid hheld
      clear C hr htz hheld hb6 hb7 hb35 hb37 HN7 HT7 HN3 hT3 hb6B hb5B hb4B hb3B hb2B hbB
      go_wp2_with fail
      refine HC.out.mono ?_
      clear HC
      intro e w8 hpost
      obtain ⟨hcase, HK8⟩ := hpost
      have hb8B := hb7B.trans HK8.out.below
      have hB8 : B ≤ w8.heap.size := Nat.le_trans hB7 HK8.out.below.size
      obtain ⟨m, hm⟩ : ∃ m, w8.heap.size = m := ⟨_, rfl⟩
      obtain ⟨wm, hwm⟩ : ∃ wm, w8.alloc (.cells #[.slice none 0 0, .slice none 0 0, .int .i64 0] 44) = wm := ⟨_, rfl⟩
      have hbm : Below w8.heap.size w8 wm := by rw [← hwm]; exact (Below.refl _ _).alloc (Nat.le_refl _) _
      have hRm : RNetIs wm B m ⟨[], [], 0⟩ := by rw [← hwm, ← hm]; exact rnet_new w8 B hB8
      have hwms : wm.heap.size = m + 1 := by rw [← hwm, ← hm, World.size_alloc]
      obtain ⟨ub, hub⟩ : ∃ ub, m + 1 = ub := ⟨_, rfl⟩
      obtain ⟨wu, hwu⟩ : ∃ wu, wm.alloc (.cells #[.string zz, .bool false, .int .i64 (-1)] 47) = wu := ⟨_, rfl⟩
      have hbu : Below wm.heap.size wm wu := by rw [← hwu]; exact (Below.refl _ _).alloc (Nat.le_refl _) _
      have hTu : RTapeS wu ub ⟨bl zz, false, -1⟩ := ⟨zz, rfl, by rw [← hwu, ← hub, ← hwms]; exact heap_alloc_new _ _, by show (bl zz).length ≤ _; rw [bl_length]; exact hz1, by show (-1 : Int) ≤ -1 ∧ (-1 : Int) ≤ _; omega⟩
      have hb8u := hbm.trans (hbu.mono hbm.size)
      have hBu : B ≤ ub := by rw [← hub, ← hwms]; exact Nat.le_trans hB8 hbm.size
      have hBwu : B ≤ wu.heap.size := Nat.le_trans hB8 hb8u.size
      have HRu := Lib.hid (hRm.below hbu)
      have CO := Lib.hid (COP.out wu m ub hTu hBu hBwu (hb8B.trans (hb8u.mono hB8)))
      have HWM := Lib.hid hwm
      have HM := Lib.hid hm
      have HWU := Lib.hid hwu
      have HU := Lib.hid hub
      have HWMS := Lib.hid hwms
      have HB8U := Lib.hid hb8u
      have HB8W := Lib.hid hb8B
      clear hm hwm hwms hbm hRm hub hwu hbu hTu hb8u COP hb7B
      rcases hcase with ⟨hz0, hb, sb, rv, lv, rl, rfl, HP, HOK⟩ | ⟨hz0, ev, rfl, HI, HTP⟩
      · go_wp2_with fail
        rw [HZZ.out, HWM.out, HM.out, HWU.out, HU.out]
        refine CO.out.mono ?_
        clear CO
        intro e w9 hpost
        obtain ⟨hcase, HT9, HK9, _⟩ := hpost
        rcases hcase with ⟨_, hb2, sb2, rv2, lv2, rl2, rfl, HA⟩ | ⟨hn, _⟩
        rotate_left
        · exact absurd hz0 hn
        have HP9 := Lib.hid ((HP.out.below HB8U.out).keeps HK9.out free_rtape)
        have HR9 := Lib.hid (HRu.out.keeps HK9.out (fun cs => kq_tape _ (by decide) cs _) (fun cs => kq_tape _ (by decide) cs _) (fun cs => kq_tape _ (by decide) cs _))
        have HQ9 := Lib.hid (HA.out.ref (Nat.le_refl _) hBu HR9.out HT9.out)
        have hb9B := HB8W.out.trans ((HB8U.out.mono hB8).trans HK9.out.below)
        have hB9 : B ≤ w9.heap.size := Nat.le_trans hBwu HK9.out.below.size
        have hal : Below w9.heap.size w9 (w9.alloc (.cells #[.int .i64 0, .int .i64 (-1)] 38)) := (Below.refl _ _).alloc (Nat.le_refl _) _
        have HBZ := Lib.hid (hb9B.trans (hal.mono hB9))
        have C := Lib.hid (asShop_any (HP9.out.below hal) (HQ9.out.below hal) (Nat.le_trans hB9 hal.size) (by have := HOK.out.lock.few; omega) (by have h1 := HHE.out.few; have h2 := HHE.out.len; omega) HOK.out.rules)
        have hBza := Nat.le_trans hB9 hal.size
        clear HP HA HT9 HK9 HR9 HP9 HQ9 hb9B hal HRu HB8U
        go_wp2_with fail
        refine C.out.mono ?_
        rintro e w10 ⟨rfl, hb10⟩
        go_wp2_with fail
        go_ret
        exact ⟨rfl, by rw [HBE.out]; exact HBZ.out.trans (hb10.mono hBza)⟩
      · obtain ⟨c, hc⟩ : ∃ c : Int, (er.code : Int) = c := ⟨_, rfl⟩
        obtain ⟨a, ha⟩ : ∃ a : Int, er.at?.getD (-1) = a := ⟨_, rfl⟩
        have hz1 : er.code ≠ 0 := hz0
        have hcp : (0 : Int) < c := by omega
        clear hz1
        have HFA := Lib.hid (faultB3_self er c a hc ha)
        have HER : Hid (erA er = #[.int .i64 c, .int .i64 a]) := by show _ = _; unfold erA; rw [hc, ha]
        obtain ⟨ty, y, rfl⟩ := HI.out.some_inv hz0
        have HN0 := Lib.hid hz0
        clear hc ha hz0
        go_wp2_with fail
        rw [HZZ.out, HWM.out, HM.out, HWU.out, HU.out]
        refine CO.out.mono ?_
        clear CO
        intro e w9 hpost
        obtain ⟨hcase, HT9, HK9, HU9⟩ := hpost
        rcases hcase with ⟨h0, _⟩ | ⟨_, he⟩
        · exact absurd h0 HN0.out
        rw [HER.out] at he
        subst he
        have HI9 : Hid (IsErr E w9 (.iface ty y) er) := (HI.out.ext HB8U.out).but HU9.out (by rw [← HU.out, ← HWU.out, ← HWMS.out]; exact ⟨zz, by rw [Lib.cell_of_heap (heap_alloc_new _ _)]; rfl⟩)
        have hb9B := HB8W.out.trans ((HB8U.out.mono hB8).trans HK9.out.below)
        have hB9 : B ≤ w9.heap.size := Nat.le_trans hBwu HK9.out.below.size
        have hal : Below w9.heap.size w9 (w9.alloc (.cells #[.int .i64 c, .int .i64 a] 38)) := (Below.refl _ _).alloc (Nat.le_refl _) _
        have hbz := hb9B.trans (hal.mono hB9)
        have HBZ := Lib.hid hbz
        have hBza := Nat.le_trans hB9 hal.size
        have C := faulted3_any (HEB.out _ hbz).env (HI9.out.ext hal) c a
        rw [HFA.out] at C
        have HC := Lib.hid C
        clear HI HT9 HK9 HU9 HI9 hb9B hal HRu HB8U C hbz HTP
        go_wp2_with fail
        refine HC.out.mono ?_
        rintro e w10 ⟨rfl, hb10⟩
        go_wp2_with fail
        go_ret
        exact ⟨rfl, by rw [HBE.out]; exact HBZ.out.trans (hb10.mono hBza)⟩
end Go.Proofs.YtcjjbpoaojjojaaGreatDoor
