/- The reference's net: find, Put, Host, SetCut, Get: contracts. The reference's net: Put, SetCut: contracts. The reference's net: Put, Host: contracts. The reference's net: Host, Get: contracts. -/
import Derived.Test.YtomceddfbfpjjaaGreatDoorKNetUp
import Derived.Test.YtomceddfbfpjjaaGreatDoorKRowed
import Derived.Test.YtomceddfbfpjjaaGreatDoorKRefLinkUp
import Derived.Test.YtomceddfbfpjjaaGreatDoorKRefPathed
import Derived.Maps.AppendAt
import Derived.Laws.OwnMore
namespace Go.Proofs.YtomceddfbfpjjaaGreatDoor
open Go Go.RowKit

abbrev encSite (x : SiteB) : List Value := [.string x.url, .string x.text, .int .i64 x.cut]
def RNetRow (o : Obj) : Prop := (∃ cs fz, o = .cells cs 37 fz) ∨ (∃ cs fz, o = .cells cs 122 fz)

/-- The reference's net at block m. -/
structure RNetAt (w : World) (B m : Nat) (n : NetB) (vL vO : Value) : Prop where
  hm : B ≤ m
  blk : w.heap[m]? = some (.cells #[vL, vO, .int .i64 n.calls] 37 (0, 0))
  sites : w.ownsRow B 122 3 vL n.sites.length (n.sites.flatMap encSite)
  offs : w.ownsRow B 9 1 vO n.off.length (n.off.flatMap encStr)
def RNetIs (w : World) (B m : Nat) (n : NetB) : Prop := ∃ vL vO, RNetAt w B m n vL vO

theorem RNetIs.keeps {K : Obj → Prop} {w w' : World} {B B2 m : Nat} {n : NetB} (h : RNetIs w B m n) (hk : Keeps K B2 w w') (h1 : ∀ cs, ¬ K (.cells cs 37 (0, 0))) (h2 : ∀ cs, ¬ K (.cells cs 122 (0, 0))) (h3 : ∀ cs, ¬ K (.cells cs 9 (0, 0))) : RNetIs w' B m n := by
  obtain ⟨vL, vO, h⟩ := h
  exact ⟨vL, vO, h.hm, hk.keep m _ h.blk (h1 _), hk.owns h.sites h2, hk.owns h.offs h3⟩
theorem RNetAt.below {w w' : World} {B m : Nat} {n : NetB} {vL vO : Value} (h : RNetAt w B m n vL vO) (hb : Below w.heap.size w w') : RNetAt w' B m n vL vO :=
  ⟨h.hm, by rw [hb.block m (Array.getElem?_eq_some_iff.1 h.blk).1]; exact h.blk, owns_below h.sites hb, owns_below h.offs hb⟩
theorem RNetIs.below {w w' : World} {B m : Nat} {n : NetB} (h : RNetIs w B m n) (hb : Below w.heap.size w w') : RNetIs w' B m n := by
  obtain ⟨vL, vO, h⟩ := h
  exact ⟨vL, vO, h.below hb⟩

/-- Elements of three cells. -/
theorem Row.three {α : Type} {enc : α → List Value} {w : World} {v : Value} {l : List α} (h : Row enc 3 w v l) :
    ∃ ao cap, v = .slice ao l.length cap ∧ l.length ≤ cap ∧ cap ≤ maxLen ∧ (∀ i, (hi : i < l.length) → ∃ b off, ao = some ⟨b, off, none⟩ ∧ b < w.heap.size ∧ ∀ k, (hk : k < l.length) → ∀ j, j < 3 → w.cell? ⟨b, off + k * 3 + j, none⟩ = some ((enc l[k]).getD j undef)) := by
  rcases h with ⟨rfl, rfl⟩ | ⟨b, off, cap, rfl, h1, h2, h3, h4⟩
  · exact ⟨none, 0, rfl, Nat.le_refl _, Nat.zero_le _, fun i hi => absurd hi (Nat.not_lt_zero _)⟩
  · exact ⟨some ⟨b, off, none⟩, cap, rfl, h1, h2, fun i hi => ⟨b, off, rfl, h3, h4⟩⟩

theorem siteIx_of {u : ByteArray} : ∀ {l : List SiteB} {k : Nat} (hk : k < l.length), l[k].url = u → (∀ j, (hj : j < k) → l[j].url ≠ u) → siteIx u l = some k
  | x :: l, 0, _, h, _ => by
    have h' : x.url = u := h
    unfold siteIx; rw [if_pos h']
  | x :: l, k + 1, hk, h, hj => by
    have h0 : x.url ≠ u := hj 0 (by omega)
    unfold siteIx
    rw [if_neg h0, siteIx_of (l := l) (k := k) (by simpa using hk) h (fun j hj' => hj (j + 1) (by omega))]
    rfl
theorem siteIx_end {u : ByteArray} {l : List SiteB} (h : ∀ j, (hj : j < l.length) → l[j].url ≠ u) : siteIx u l = none := by
  rw [siteIx_none, siteAt_none]
  intro x hx
  obtain ⟨j, hj, rfl⟩ := List.mem_iff_getElem.1 hx
  exact h j hj
def ixN : Option Nat → Int
  | some k => k
  | none => -1

set_option maxHeartbeats 1000000 in
set_option maxRecDepth 100000 in
theorem refFind_any (B m : Nat) (n : NetB) (u : ByteArray) (w : World) (h : RNetIs w B m n) (hn : n.sites.length ≤ 60) :
    Calls Tryz.prog 58 #[.pointer (some ⟨m, 0, none⟩), .string u] w fun e w' => e = .returned (.int .i64 (ixN (siteIx u n.sites))) ∧ Below w.heap.size w w' := by
  obtain ⟨vL, vO, h⟩ := h
  obtain ⟨ao, cap, rfl, h1, h2, H3⟩ := (Row.of_owns (enc := encSite) (fun _ => rfl) h.sites).three
  have c0 : w.cell? ⟨m, 0, none⟩ = some (.slice ao n.sites.length cap) := by rw [Lib.cell_of_heap h.blk]; rfl
  have HM := Lib.hid H3
  clear H3 h
  obtain ⟨l, hl⟩ : ∃ l, n.sites = l := ⟨_, rfl⟩
  rw [hl] at HM c0 hn h1 ⊢
  clear hl
  go_enter Tryz.func58, Tryz.ntmps58
  go_wp2_with fail
  go_loopw [5] (fun i wr => ∃ k : Nat, k ≤ l.length ∧ i = .int .i64 k ∧ Hid (∀ j, (hj : j < l.length) → j < k → l[j].url ≠ u) ∧ wr = w) (fun i _ => l.length - (intOf i).toNat)
  case atStart => exact ⟨0, Nat.zero_le _, rfl, (fun j _ hj => absurd hj (Nat.not_lt_zero _)), rfl⟩
  case round =>
    obtain ⟨k, hk, rfl, HJ, rfl⟩ := hrel
    by_cases hlt : k < l.length
    · obtain ⟨b, off, rfl, _, hcell⟩ := HM.out k hlt
      have q0 : wr.cell? ⟨b, off + k * 3 + 0, none⟩ = some (.string l[k].url) := hcell k hlt 0 (by decide)
      rw [Nat.add_zero] at q0
      clear hcell
      obtain ⟨z, hz⟩ : ∃ z, l[k].url = z := ⟨_, rfl⟩
      rw [hz] at q0
      have HZ := Lib.hid hz
      obtain ⟨e, he⟩ : ∃ e, (z.toList == u.toList) = e := ⟨_, rfl⟩
      have HEq := Lib.hid he
      clear hz
      cases e with
      | true =>
        go_wp2_with fail
        go_ret
        have hzu : z = u := by
          have := beq_iff_eq.1 he
          rw [toList_bl, toList_bl] at this
          exact bl_eq this
        refine ⟨?_, Below.refl _ _⟩
        rw [siteIx_of hlt (by rw [HZ.out, hzu]) (fun j hj => HJ.out j (by omega) hj)]
        rfl
      | false =>
        have H2 : Hid (∀ j, (hj : j < l.length) → j < k + 1 → l[j].url ≠ u) := by
          intro j hj hjk
          by_cases hjk' : j < k
          · exact HJ.out j hj hjk'
          · obtain rfl : j = k := by omega
            rw [HZ.out]
            rintro rfl
            rw [beq_self_eq_true] at he
            cases he
        go_wp2_with fail
        go_roundw
        case rel => exact ⟨k + 1, by omega, by go_num, H2, trivial⟩
        case measure => simp [intOf]; omega
    · obtain rfl : k = l.length := by omega
      go_wp2_with fail
      go_ret
      refine ⟨?_, Below.refl _ _⟩
      rw [siteIx_end (fun j hj => HJ.out j hj hj)]
      rfl
end Go.Proofs.YtomceddfbfpjjaaGreatDoor

namespace Go.Proofs.YtomceddfbfpjjaaGreatDoor
open Go Go.RowKit

theorem Keeps.set {K : Obj → Prop} {B b j : Nat} {w : World} {o : Obj} {x : Value} (hB : B ≤ b) (hb : w.heap[b]? = some o) (hK : K o) : Keeps K B w (w.setCell ⟨b, j, none⟩ x) := by
  refine ⟨(Below.refl B w).setCell (p := ⟨b, j, none⟩) hB _, fun k o' hk hn => ?_⟩
  by_cases he : k = b
  · subst he; rw [hb] at hk; cases hk; exact absurd hK hn
  · rw [Below.heap_setCell _ _ _ _ he]; exact hk
theorem flatMap_set {α : Type} (enc : α → List Value) (size : Nat) (hs : ∀ x, (enc x).length = size) : ∀ (l : List α) (k : Nat) (hk : k < l.length) (j : Nat), j < size → ∀ (x : α) (a : Value), enc x = (enc l[k]).set j a → (l.set k x).flatMap enc = (l.flatMap enc).set (k * size + j) a
  | y :: l, 0, _, j, hj, x, a, h => by
    have h' : enc x = (enc y).set j a := h
    rw [List.set_cons_zero, List.flatMap_cons, List.flatMap_cons, h', Nat.zero_mul, Nat.zero_add, List.set_append_left _ _ (by rw [hs]; exact hj)]
  | y :: l, k + 1, hk, j, hj, x, a, h => by
    have hk' : k < l.length := by simpa using hk
    have h' : enc x = (enc l[k]).set j a := h
    rw [List.set_cons_succ, List.flatMap_cons, List.flatMap_cons, flatMap_set enc size hs l k hk' j hj x a h', List.set_append_right _ _ (by rw [hs, Nat.succ_mul]; omega), hs]
    congr 2
    rw [Nat.succ_mul]; omega
theorem row_block {w : World} {B m : Nat} {n : NetB} {vL vO : Value} (h : RNetAt w B m n vL vO) {k : Nat} (hk : k < n.sites.length) :
    ∃ g cap, vL = .slice (some ⟨g, 0, none⟩) n.sites.length cap ∧ B ≤ g ∧ m ≠ g ∧ n.sites.length ≤ cap ∧ cap ≤ maxLen ∧ ∃ cur, w.heap[g]? = some (.cells cur 122 (0, 0)) := by
  rcases h.sites.2 with ⟨_, h0⟩ | ⟨g, cap, cur, rfl, hb, hg, hn, hc, _, _⟩
  · omega
  · refine ⟨g, cap, rfl, hb, ?_, hn, hc, cur, hg⟩
    rintro rfl
    have := h.blk
    rw [hg] at this
    injection this with this
    injection this with _ h3 _
    exact absurd h3 (by decide)
theorem offs_ne {w : World} {B m g : Nat} {n : NetB} {vL vO : Value} {cur : Array Value} (h : RNetAt w B m n vL vO) (hg : w.heap[g]? = some (.cells cur 122 (0, 0))) : vO.ownBlock ≠ some g := by
  rcases h.offs.2 with ⟨rfl, _⟩ | ⟨g', cap, cur', rfl, hb, hg', _⟩
  · simp [Value.ownBlock]
  · intro e
    obtain rfl : g' = g := Option.some.inj e
    rw [hg] at hg'
    injection hg' with hg'
    injection hg' with _ h3 _
    exact absurd h3 (by decide)
theorem sites_ne {w : World} {B m : Nat} {n : NetB} {vL vO : Value} (h : RNetAt w B m n vL vO) : vL.ownBlock ≠ some m := by
  rcases h.sites.2 with ⟨rfl, _⟩ | ⟨g', cap, cur', rfl, hb, hg', _⟩
  · simp [Value.ownBlock]
  · intro e
    obtain rfl : g' = m := Option.some.inj e
    rw [h.blk] at hg'
    injection hg' with hg'
    injection hg' with _ h3 _
    exact absurd h3 (by decide)
theorem offs_ne_m {w : World} {B m : Nat} {n : NetB} {vL vO : Value} (h : RNetAt w B m n vL vO) : vO.ownBlock ≠ some m := by
  rcases h.offs.2 with ⟨rfl, _⟩ | ⟨g', cap, cur', rfl, hb, hg', _⟩
  · simp [Value.ownBlock]
  · intro e
    obtain rfl : g' = m := Option.some.inj e
    rw [h.blk] at hg'
    injection hg' with hg'
    injection hg' with _ h3 _
    exact absurd h3 (by decide)
/-- A site's field is stored. -/
theorem rnet_store {w : World} {B m g cap k j : Nat} {n n' : NetB} {vO x : Value} {y : SiteB} (h : RNetAt w B m n (.slice (some ⟨g, 0, none⟩) n.sites.length cap) vO) (hk : k < n.sites.length) (hj : j < 3) (hy : encSite y = (encSite n.sites[k]).set j x)
    (hB : B ≤ g) (hg : ∃ cur, w.heap[g]? = some (.cells cur 122 (0, 0))) (hs : n'.sites = n.sites.set k y) (ho : n'.off = n.off) (hc : n'.calls = n.calls) :
    RNetAt (w.setCell ⟨g, k * 3 + j, none⟩ x) B m n' (.slice (some ⟨g, 0, none⟩) n'.sites.length cap) vO ∧ Keeps RNetRow B w (w.setCell ⟨g, k * 3 + j, none⟩ x) := by
  obtain ⟨cur, hg⟩ := hg
  have hmg : m ≠ g := by
    rintro rfl
    have := h.blk
    rw [hg] at this
    injection this with this
    injection this with _ h3 _
    exact absurd h3 (by decide)
  have hl : n'.sites.length = n.sites.length := by rw [hs, List.length_set]
  refine ⟨⟨h.hm, ?_, ?_, ?_⟩, Keeps.set hB hg (.inr ⟨_, _, rfl⟩)⟩
  · rw [hl, hc, Below.heap_setCell _ _ _ _ hmg]; exact h.blk
  · rw [hl, hs, flatMap_set encSite 3 (fun _ => rfl) n.sites k hk j hj y x hy]
    exact (h.sites.stored (k * 3 + j) x).1
  · rw [ho]
    exact ownsRow_setCell_other h.offs (offs_ne h hg) x

/-- What a call on the reference's net leaves and answers. -/
def RNetPost (B m : Nat) (r : Nat × NetB) (w : World) (e : Ending) (w' : World) : Prop :=
  e = .returned (.int .i64 r.1) ∧ RNetIs w' B m r.2 ∧ Keeps RNetRow B w w'
theorem RNetPost.same {B m c : Nat} {n : NetB} {w w' : World} {i : Int} (h : RNetIs w' B m n) (hb : Below w.heap.size w w') (hB : B ≤ w.heap.size) (hi : i = (c : Int)) : RNetPost B m (c, n) w (.returned (.int .i64 i)) w' :=
  ⟨by rw [hi], h, Keeps.of hb hB⟩
theorem Tryz.infoSite : (Tryz.prog.info? 122).map (fun i => (i.zero, i.size, i.bytes)) = some (some (.agg #[.string ⟨#[]⟩, .string ⟨#[]⟩, .int .i64 0]), 3, 40) := by kernel_rfl
theorem ixN_none {u : ByteArray} {l : List SiteB} (h : siteAt u l = none) : ixN (siteIx u l) = -1 := by rw [siteIx_none.2 h]; rfl
theorem ix_some {u : ByteArray} {l : List SiteB} {x : SiteB} (h : siteAt u l = some x) : ∃ k, siteIx u l = some k := by
  have := siteIx_at (u := u) (l := l)
  rw [h] at this
  exact Option.isSome_iff_exists.1 this

set_option maxHeartbeats 1000000 in
set_option maxRecDepth 100000 in
theorem refSetCut_net (B m : Nat) (n : NetB) (u : ByteArray) (c : Int) (w : World) (h : RNetIs w B m n) (hok : NetOk n) (hc : c ≤ 9223372036854775807 ∧ -9223372036854775808 ≤ c) (hBw : B ≤ w.heap.size) :
    Calls Tryz.prog 35 #[.pointer (some ⟨m, 0, none⟩), .string u, .int .i64 c] w (RNetPost B m (cutN n u c) w) := by
  have C := Lib.hid (refFind_any B m n u w h hok.few)
  have HN := Lib.hid h
  have few := hok.few
  clear h hok
  go_enter Tryz.func35, Tryz.ntmps35
  go_wp2_with fail
  refine C.out.mono ?_
  clear C
  rintro e w1 ⟨rfl, hb⟩
  have HN1 := Lib.hid (HN.out.below hb)
  rcases hx : siteAt u n.sites with _ | x
  · rw [ixN_none hx]
    have hr : cutN n u c = (6, n) := by unfold cutN; rw [hx]
    have HR := Lib.hid hr
    clear hr hx
    go_wp2_with fail
    go_ret
    rw [HR.out]
    exact RNetPost.same HN1.out hb hBw rfl
  · obtain ⟨k, hix⟩ := ix_some hx
    obtain ⟨hk, hku, hka, _, _, hset⟩ := siteIx_spec hix
    rw [hix, show ixN (some k) = (k : Int) from rfl]
    by_cases hc0 : c < 0
    · have hr : cutN n u c = (2, n) := by unfold cutN; rw [hx]; simp only; rw [if_pos hc0]
      have HR := Lib.hid hr
      clear hr hx hix hka hset
      go_wp2_with fail
      go_ret
      rw [HR.out]
      exact RNetPost.same HN1.out hb hBw rfl
    · have hr : cutN n u c = (0, { n with sites := setCut u c n.sites }) := by unfold cutN; rw [hx]; simp only; rw [if_neg hc0]
      have HR := Lib.hid hr
      obtain ⟨vL, vO, h1⟩ := HN1.out
      obtain ⟨g, cap, rfl, hBg, hmg, hlc, hcm, hcur⟩ := row_block h1 hk
      have c0 : w1.cell? ⟨m, 0, none⟩ = some (.slice (some ⟨g, 0, none⟩) n.sites.length cap) := by rw [Lib.cell_of_heap h1.blk]; rfl
      have q2 : w1.cell? ⟨g, k * 3 + 2, none⟩ = some (.int .i64 n.sites[k].cut) := by
        have := (Row.of_owns (enc := encSite) (fun _ => rfl) h1.sites).three
        obtain ⟨ao, cap', he, _, _, hcell⟩ := this
        obtain ⟨b, off, rfl, _, hcl⟩ := hcell k hk
        simp only [Value.slice.injEq, Option.some.injEq, Addr.mk.injEq, and_true, true_and] at he
        obtain ⟨⟨rfl, rfl⟩, _⟩ := he
        have := hcl k hk 2 (by decide)
        rw [Nat.zero_add] at this
        exact this
      have f2 : w1.frozen? ⟨g, k * 3 + 2, none⟩ = false := h1.sites.frozenAt _
      obtain ⟨hS, hK⟩ := rnet_store (n' := { n with sites := setCut u c n.sites }) (y := ⟨n.sites[k].url, n.sites[k].text, c⟩) (x := .int .i64 c) (j := 2) h1 hk (by decide) rfl hBg hcur (hset c) rfl rfl
      have HS := Lib.hid hS
      clear h1 hr hx hix hka hset hcur hS
      go_wp2_with fail
      go_ret
      rw [HR.out]
      exact ⟨rfl, ⟨_, _, HS.out⟩, (Keeps.of hb hBw).trans hK⟩
end Go.Proofs.YtomceddfbfpjjaaGreatDoor

namespace Go.Proofs.YtomceddfbfpjjaaGreatDoor
open Go Go.RowKit

theorem owns_base2 {base B : Nat} {e : TypeId} {size : Nat} {w : World} {v : Value} {n : Nat} {xs : List Value} (h : w.ownsRow base e size v n xs) (hB : B ≤ base) : w.ownsRow B e size v n xs := by
  refine ⟨h.1, ?_⟩
  rcases h.2 with h0 | ⟨g, cap, cur, hv, hb, hr⟩
  · exact .inl h0
  · exact .inr ⟨g, cap, cur, hv, Nat.le_trans hB hb, hr⟩
/-- A field of the net's own block is stored. -/
theorem rnet_set {w : World} {m : Nat} {cs : Array Value} (hb : w.heap[m]? = some (.cells cs 37 (0, 0))) (j : Nat) (x : Value) :
    (w.setCell ⟨m, j, none⟩ x).heap[m]? = some (.cells (cs.setIfInBounds j x) 37 (0, 0)) := by
  simp [World.setCell, Array.getElem?_modify, hb]

theorem owns_succ {W : World} {base : Nat} {e : TypeId} {size : Nat} {v : Value} {k : Nat} {xs : List Value} (h : W.ownsRow base e size v (k + 1) xs) : ∃ g cap, v = .slice (some ⟨g, 0, none⟩) (k + 1) cap := by
  rcases h.2 with ⟨_, h0⟩ | ⟨g, cap, cur, hv, _⟩
  · cases h0
  · exact ⟨g, cap, hv⟩
theorem notR_str (cs : Array Value) : ¬ RNetRow (.cells cs 9 (0, 0)) := by
  rintro (⟨c, fz, h⟩ | ⟨c, fz, h⟩) <;> (injection h with _ h3 _; exact absurd h3 (by decide))
theorem keeps_grown {K : Obj → Prop} {w w' : World} {B size n : Nat} {e : TypeId} {v : Value} {xs : List Value} (h : w.ownsRow B e size v n xs) (hg : w.grownBy w' v.ownBlock) (hB : B ≤ w.heap.size) (hK : ∀ cs, K (.cells cs e (0, 0))) : Keeps K B w w' := by
  refine ⟨(Below.refl B w).grown hg hB (fun g e => (h.lt g e).1), fun k o hk hn => ?_⟩
  rw [hg.block k (Array.getElem?_eq_some_iff.1 hk).1 (fun e => hn ?_)]
  · exact hk
  · rcases h.2 with ⟨rfl, _⟩ | ⟨g, cap, cur, rfl, _, hgg, _⟩
    · simp [Value.ownBlock] at e
    · obtain rfl : k = g := Option.some.inj e
      rw [hgg] at hk
      cases hk
      exact hK _
/-- A site comes last. -/
theorem rnet_append {w w3 : World} {B m : Nat} {n : NetB} {vL vO v' : Value} {x : SiteB} {o : Obj} (h : RNetAt w B m n vL vO) (hB : B ≤ w.heap.size) (hown : w3.ownsRow B 122 3 v' (n.sites.length + 1) (n.sites.flatMap encSite ++ encSite x)) (hg : (w.alloc o).grownBy w3 vL.ownBlock)
    (hloc : v'.ownBlock = vL.ownBlock ∨ v'.ownBlock = some (w.heap.size + 1)) :
    w3.heap[m]? = some (.cells #[vL, vO, .int .i64 n.calls] 37 (0, 0)) ∧ RNetAt (w3.setCell ⟨m, 0, none⟩ v') B m { n with sites := n.sites ++ [x] } v' vO ∧ Keeps RNetRow B w (w3.setCell ⟨m, 0, none⟩ v') := by
  have hm : m < w.heap.size := (Array.getElem?_eq_some_iff.1 h.blk).1
  have hal : Keeps RNetRow B w (w.alloc o) := Keeps.of ((Below.refl _ _).alloc (Nat.le_refl _) _) hB
  have hs1 : (w.alloc o).heap.size = w.heap.size + 1 := by simp only [World.size_alloc]
  have hk : Keeps RNetRow B w w3 := hal.trans (keeps_grown (h.sites.alloc o) hg (by omega) (fun cs => .inr ⟨_, _, rfl⟩))
  have hblk : w3.heap[m]? = some (.cells #[vL, vO, .int .i64 n.calls] 37 (0, 0)) := by
    rw [hg.block m (by omega) (fun e => sites_ne h e.symm), Below.heap_alloc _ _ _ hm]; exact h.blk
  have hne : v'.ownBlock ≠ some m := by
    rcases hloc with e | e
    · rw [e]; exact sites_ne h
    · rw [e]; intro e2; have := Option.some.inj e2; omega
  refine ⟨hblk, ⟨h.hm, rnet_set hblk 0 v', ?_, ?_⟩, hk.trans (Keeps.set h.hm hblk (.inl ⟨_, _, rfl⟩))⟩
  · refine ownsRow_setCell_other ?_ hne v'
    rw [List.length_append, List.flatMap_append]
    simpa using hown
  · have h1 := hk.owns h.offs notR_str
    refine ownsRow_setCell_other h1 ?_ v'
    exact offs_ne_m h

set_option maxHeartbeats 1000000 in
set_option maxRecDepth 100000 in
theorem refPut_net (B m : Nat) (n : NetB) (u s : ByteArray) (w : World) (h : RNetIs w B m n) (hok : NetOk n) (hu : u.size ≤ 100000) (hs : s.size ≤ 100000000) (hBw : B ≤ w.heap.size) :
    Calls Tryz.prog 31 #[.pointer (some ⟨m, 0, none⟩), .string u, .string s] w (RNetPost B m (putN n u s) w) := by
  obtain ⟨i1, hi1, hy0, hy1, hy2⟩ := info_parts Tryz.infoSite
  have C := Lib.hid (refLinkError_any u w hu)
  have HN := Lib.hid h
  have few := hok.few
  clear h hok
  go_enter Tryz.func31, Tryz.ntmps31
  go_wp2_with fail
  refine C.out.mono ?_
  clear C
  rintro e w1 ⟨rfl, hb1⟩
  have HN1 := Lib.hid (HN.out.below hb1)
  obtain ⟨c, hc⟩ : ∃ c, linkE (bl u) = c := ⟨_, rfl⟩
  rw [hc]
  cases c with
  | succ c =>
    have hr : putN n u s = (c + 1, n) := by unfold putN; rw [hc, if_pos (by omega)]
    have HR := Lib.hid hr
    clear hc hr
    go_wp2_with fail
    go_ret
    rw [HR.out]
    exact RNetPost.same HN1.out hb1 hBw (by push_cast; rfl)
  | zero =>
    have HC := Lib.hid hc
    clear hc
    by_cases hs2 : 20000 < s.size
    · have hr : putN n u s = (2, n) := by unfold putN; rw [if_neg (by rw [HC.out]; simp), if_pos hs2]
      have HR := Lib.hid hr
      clear hr
      go_wp2_with fail
      go_ret
      rw [HR.out]
      exact RNetPost.same HN1.out hb1 hBw rfl
    · have C := Lib.hid (refFind_any B m n u w1 HN1.out few)
      go_wp2_with fail
      refine C.out.mono ?_
      clear C HN1
      rintro e w2 ⟨rfl, hb2⟩
      have hb := hb1.trans (hb2.mono hb1.size)
      have HN2 := Lib.hid (HN.out.below hb)
      rcases hx : siteAt u n.sites with _ | x
      · rw [ixN_none hx]
        obtain ⟨vL, vO, h2⟩ := HN2.out
        have H2 := Lib.hid h2
        have c0 : w2.cell? ⟨m, 0, none⟩ = some vL := by rw [Lib.cell_of_heap h2.blk]; rfl
        obtain ⟨ao, cap, hvl, hlc, hcm, _⟩ := (Row.of_owns (enc := encSite) (fun _ => rfl) h2.sites).three
        by_cases h60 : 60 ≤ n.sites.length
        · have hr : putN n u s = (8, n) := by unfold putN; rw [if_neg (by rw [HC.out]; simp), if_neg hs2, hx]; simp only; rw [if_pos h60]
          have HR := Lib.hid hr
          rw [hvl] at c0
          clear hr hx h2
          go_wp2_with fail
          go_ret
          rw [HR.out]
          exact RNetPost.same HN2.out hb hBw rfl
        · have hr : putN n u s = (0, { n with sites := n.sites ++ [⟨u, s, -1⟩] }) := by unfold putN; rw [if_neg (by rw [HC.out]; simp), if_neg hs2, hx]; simp only; rw [if_neg h60]
          have HR := Lib.hid hr
          have hown := h2.sites
          rw [hvl] at c0 hown
          have HO := Lib.hid hown
          have hne := sites_ne h2
          rw [hvl] at hne
          have hmlt : m < w2.heap.size := (Array.getElem?_eq_some_iff.1 h2.blk).1
          have hBs : B ≤ w2.heap.size := Nat.le_trans hBw hb.size
          clear hr hx h2 hown
          go_wp2_with (at_builtin; refine wpList_append_own_at _ rfl _ _ 34 rfl B 122 i1 (.agg #[.string ⟨#[]⟩, .string ⟨#[]⟩, .int .i64 0]) 3 40 Tryz.underlying34 hi1 hy0 hy1 hy2 rfl (by decide) _ _ _ rfl (HO.out.alloc _) ⟨w2.heap.size, 0, none⟩ 1 1 (encSite ⟨u, s, -1⟩) rfl rfl ?c1 ?c2 ?c3 ?c4 ?c5 ?_)
          case c1 =>
            intro j v hj
            match j, hj with
            | 0, hj => simp at hj; subst hj; simp [Addr.add]
            | 1, hj => simp at hj; subst hj; simp [Addr.add]
            | 2, hj => simp at hj; subst hj; simp [Addr.add]
          case c2 => intro v hv; simp at hv; rcases hv with rfl | rfl | rfl <;> rfl
          case c3 => unfold maxLen; omega
          case c4 => omega
          case c5 => simp; omega
          intro v' w3 hown' hgrow _ hloc
          have hg2 : (w2.alloc (.cells #[.string u, .string s, .int .i64 (-1)] 122)).grownBy w3 vL.ownBlock := by rw [hvl]; exact hgrow
          obtain ⟨hblk, hS, hK⟩ := rnet_append (x := ⟨u, s, -1⟩) H2.out hBs hown' hg2 (by rw [hvl]; exact hloc)
          have g0 : w3.cell? ⟨m, 0, none⟩ = some vL := by rw [Lib.cell_of_heap hblk]; rfl
          have f0 : w3.frozen? ⟨m, 0, none⟩ = false := Lib.frozen_of_heap hblk 0
          have HS := Lib.hid hS
          obtain ⟨g', cap', rfl⟩ := owns_succ hown'
          clear hown' hgrow hg2 hloc hblk hS c0
          go_wp2_with fail
          go_ret
          rw [HR.out]
          exact ⟨rfl, ⟨_, _, HS.out⟩, (Keeps.of hb hBw).trans hK⟩
      · obtain ⟨k, hix⟩ := ix_some hx
        obtain ⟨hk, hku, hka, _, hset, _⟩ := siteIx_spec hix
        rw [hix, show ixN (some k) = (k : Int) from rfl]
        have hr : putN n u s = (0, { n with sites := setSite u s (-1) n.sites }) := by unfold putN; rw [if_neg (by rw [HC.out]; simp), if_neg hs2, hx]
        have HR := Lib.hid hr
        obtain ⟨vL, vO, h1⟩ := HN2.out
        obtain ⟨g, cap, rfl, hBg, hmg, hlc, hcm, hcur⟩ := row_block h1 hk
        have c0 : w2.cell? ⟨m, 0, none⟩ = some (.slice (some ⟨g, 0, none⟩) n.sites.length cap) := by rw [Lib.cell_of_heap h1.blk]; rfl
        have hq : ∀ j, j < 3 → w2.cell? ⟨g, k * 3 + j, none⟩ = some ((encSite n.sites[k]).getD j undef) := by
          obtain ⟨ao, cap', he, _, _, hcell⟩ := (Row.of_owns (enc := encSite) (fun _ => rfl) h1.sites).three
          obtain ⟨b, off, rfl, _, hcl⟩ := hcell k hk
          simp only [Value.slice.injEq, Option.some.injEq, Addr.mk.injEq, and_true, true_and] at he
          obtain ⟨⟨rfl, rfl⟩, _⟩ := he
          intro j hj
          have := hcl k hk j hj
          rw [Nat.zero_add] at this
          exact this
        have q1 : w2.cell? ⟨g, k * 3 + 1, none⟩ = some (.string n.sites[k].text) := hq 1 (by decide)
        have q2 : w2.cell? ⟨g, k * 3 + 2, none⟩ = some (.int .i64 n.sites[k].cut) := hq 2 (by decide)
        have f1 : w2.frozen? ⟨g, k * 3 + 1, none⟩ = false := h1.sites.frozenAt _
        have f2 : w2.frozen? ⟨g, k * 3 + 2, none⟩ = false := h1.sites.frozenAt _
        obtain ⟨hS1, hK1⟩ := rnet_store (n' := { n with sites := n.sites.set k ⟨n.sites[k].url, s, n.sites[k].cut⟩ }) (y := ⟨n.sites[k].url, s, n.sites[k].cut⟩) (x := .string s) (j := 1) h1 hk (by decide) rfl hBg hcur rfl rfl rfl
        have hcur2 : ∃ cur, (w2.setCell ⟨g, k * 3 + 1, none⟩ (.string s)).heap[g]? = some (.cells cur 122 (0, 0)) := by
          obtain ⟨cur, hg⟩ := hcur
          exact ⟨_, by simp [World.setCell, Array.getElem?_modify, hg]; rfl⟩
        obtain ⟨hS, hK⟩ := rnet_store (n' := { n with sites := setSite u s (-1) n.sites }) (y := ⟨n.sites[k].url, s, -1⟩) (x := .int .i64 (-1)) (j := 2) hS1 (by simpa using hk) (by decide) (by simp) hBg hcur2 (by rw [hset]; simp) rfl rfl
        have HS := Lib.hid hS
        have hK2 := hK1.trans hK
        clear h1 hr hx hix hka hset hcur hcur2 hS hS1 hK hK1 hq
        go_wp2_with fail
        go_ret
        rw [HR.out]
        exact ⟨rfl, ⟨_, _, HS.out⟩, (Keeps.of hb hBw).trans hK2⟩
end Go.Proofs.YtomceddfbfpjjaaGreatDoor

namespace Go.Proofs.YtomceddfbfpjjaaGreatDoor
open Go Go.RowKit

theorem Tryz.infoStrN : (Tryz.prog.info? 9).map (fun i => (i.zero, i.size, i.bytes)) = some (some (.string ⟨#[]⟩), 1, 16) := by kernel_rfl
theorem filter_snoc_keep {l : List ByteArray} {k : Nat} (h : k < l.length) {u : ByteArray} (hne : l[k] ≠ u) : (l.take (k + 1)).filter (fun x => x ≠ u) = (l.take k).filter (fun x => x ≠ u) ++ [l[k]] := by
  rw [List.take_add_one, List.getElem?_eq_getElem h, List.filter_append]
  simp [hne]
theorem filter_snoc_drop {l : List ByteArray} {k : Nat} (h : k < l.length) {u : ByteArray} (hne : l[k] = u) : (l.take (k + 1)).filter (fun x => x ≠ u) = (l.take k).filter (fun x => x ≠ u) := by
  rw [List.take_add_one, List.getElem?_eq_getElem h, List.filter_append]
  simp [hne]
/-- The list of hosts that are off is another. -/
theorem rnet_offs {w w3 : World} {B m : Nat} {n : NetB} {vL vO v' : Value} {l : List ByteArray} (h : RNetAt w B m n vL vO) (hb : Below w.heap.size w w3) (hB : B ≤ w.heap.size) (hown : w3.ownsRow w.heap.size 9 1 v' l.length (l.flatMap encStr)) :
    w3.heap[m]? = some (.cells #[vL, vO, .int .i64 n.calls] 37 (0, 0)) ∧ RNetAt (w3.setCell ⟨m, 1, none⟩ v') B m { n with off := l } vL v' ∧ Keeps RNetRow B w (w3.setCell ⟨m, 1, none⟩ v') := by
  have hm : m < w.heap.size := (Array.getElem?_eq_some_iff.1 h.blk).1
  have h3 := h.below hb
  refine ⟨h3.blk, ⟨h.hm, rnet_set h3.blk 1 v', ?_, ?_⟩, (Keeps.of hb hB).trans (Keeps.set h.hm h3.blk (.inl ⟨_, _, rfl⟩))⟩
  · exact ownsRow_setCell_other h3.sites (sites_ne h3) v'
  · exact owns_base2 (ownsRow_setCell_below hown hm v') hB

set_option maxHeartbeats 2000000 in
set_option maxRecDepth 100000 in
theorem refHost_net (B m : Nat) (n : NetB) (u : ByteArray) (on : Bool) (w : World) (h : RNetIs w B m n) (ho : n.off.length ≤ 1000000) (hu : u.size ≤ 100000) (hBw : B ≤ w.heap.size) :
    Calls Tryz.prog 33 #[.pointer (some ⟨m, 0, none⟩), .string u, .bool on] w (RNetPost B m (hostN n u on) w) := by
  obtain ⟨i0, hi0, hz0, hz1, hz2⟩ := info_parts Tryz.infoStrN
  have C := Lib.hid (refIsPart_any u w (by omega))
  have HN := Lib.hid h
  clear h
  go_enter Tryz.func33, Tryz.ntmps33
  go_wp2_with fail
  refine C.out.mono ?_
  clear C
  rintro e w1 ⟨rfl, hb1⟩
  have HN1 := Lib.hid (HN.out.below hb1)
  obtain ⟨p, hp⟩ : ∃ p, partB (bl u) = p := ⟨_, rfl⟩
  rw [hp]
  cases p with
  | false =>
    have hr : hostN n u on = (5, n) := by unfold hostN; rw [hp]; rfl
    have HR := Lib.hid hr
    clear hr hp
    go_wp2_with fail
    go_ret
    rw [HR.out]
    exact RNetPost.same HN1.out hb1 hBw rfl
  | true =>
    have hr : hostN n u on = (0, { n with off := n.off.filter (fun x => x ≠ u) ++ (if on then [] else [u]) }) := by unfold hostN; rw [hp]; rfl
    have HR := Lib.hid hr
    obtain ⟨vL, vO, h1⟩ := HN1.out
    have H1 := Lib.hid h1
    have c1 : w1.cell? ⟨m, 1, none⟩ = some vO := by rw [Lib.cell_of_heap h1.blk]; rfl
    have hm1 : m < w1.heap.size := (Array.getElem?_eq_some_iff.1 h1.blk).1
    have hBs : B ≤ w1.heap.size := Nat.le_trans hBw hb1.size
    obtain ⟨ao, cap, hvo, hlc, hcm, hcell⟩ := (Row.of_owns (enc := encStr) (fun _ => rfl) h1.offs).parts
    rw [hvo] at c1
    have HM := Lib.hid hcell
    obtain ⟨l, hl⟩ : ∃ l, n.off = l := ⟨_, rfl⟩
    rw [hl] at HM ho c1 hlc
    have HL := Lib.hid hl
    clear h1 hr hp hcell HN1 hl hvo
    go_wp2_with fail
    go_loopw [8, 9] (fun dv i wr => ∃ (k : Nat), k ≤ l.length ∧ i = .int .i64 k ∧ Hid (wr.ownsRow w1.heap.size 9 1 dv ((l.take k).filter (fun x => x ≠ u)).length (((l.take k).filter (fun x => x ≠ u)).flatMap encStr)) ∧ Below w1.heap.size w1 wr) (fun _ i _ => l.length - (intOf i).toNat)
    case atStart => exact ⟨0, Nat.zero_le _, rfl, World.ownsRow_nil _ _ _ _, Below.refl _ _⟩
    case round =>
      obtain ⟨k, hk, rfl, HO, hb⟩ := hrel
      have c1' : wr.cell? ⟨m, 1, none⟩ = some (.slice ao l.length cap) := by rw [hb.cell (p := ⟨m, 1, none⟩) hm1]; exact c1
      have hfl : ((l.take k).filter (fun x => x ≠ u)).length ≤ k := Nat.le_trans (List.length_filter_le _ _) (by rw [List.length_take]; omega)
      by_cases hlt : k < l.length
      · obtain ⟨b, off, rfl, hbl, hcl⟩ := HM.out k hlt
        have q0 : wr.cell? ⟨b, off + k, none⟩ = some (.string l[k]) := by rw [hb.cell (p := ⟨b, off + k, none⟩) hbl]; exact hcl k hlt
        clear hcl
        obtain ⟨z, hz⟩ : ∃ z, l[k] = z := ⟨_, rfl⟩
        rw [hz] at q0
        have HZ := Lib.hid hz
        clear hz
        obtain ⟨e, he⟩ : ∃ e, (z.toList == u.toList) = e := ⟨_, rfl⟩
        cases e with
        | true =>
          have hzu : z = u := by
            have := beq_iff_eq.1 he
            rw [toList_bl, toList_bl] at this
            exact bl_eq this
          have H2 : Hid (wr.ownsRow w1.heap.size 9 1 u8 ((l.take (k + 1)).filter (fun x => x ≠ u)).length (((l.take (k + 1)).filter (fun x => x ≠ u)).flatMap encStr)) := by
            show World.ownsRow _ _ _ _ _ _ _
            rw [filter_snoc_drop hlt (by rw [HZ.out, hzu])]; exact HO.out
          clear HO
          go_wp2_with fail
          go_roundw
          case rel => exact ⟨k + 1, by omega, by go_num, H2, hb⟩
          case measure => simp [intOf]; omega
        | false =>
          have hne : l[k] ≠ u := by
            rw [HZ.out]
            rintro rfl
            rw [beq_self_eq_true] at he
            cases he
          have HX := Lib.hid (filter_snoc_keep hlt hne)
          rw [HZ.out] at HX
          clear hne
          obtain ⟨acc, hacc⟩ : ∃ acc, (l.take k).filter (fun x => x ≠ u) = acc := ⟨_, rfl⟩
          rw [hacc] at HO HX hfl
          clear hacc
          go_wp2_with (at_builtin; refine wpList_append_own _ rfl _ _ 35 rfl w1.heap.size 9 i0 (.string ⟨#[]⟩) 1 16 Tryz.underlying35 hi0 hz0 hz1 hz2 rfl (by decide) _ _ _ rfl (HO.out.alloc _) ⟨wr.heap.size, 0, none⟩ 1 1 (encStr z) rfl rfl ?c1 ?c2 ?c3 ?c4 ?c5 ?_)
          case c1 =>
            intro j u hj
            match j, hj with
            | 0, hj => simp at hj; subst hj; simp [Addr.add]
          case c2 => intro u hu; simp at hu; subst hu; rfl
          case c3 => unfold maxLen; omega
          case c4 => omega
          case c5 => have := hb.size; simp; omega
          intro v' w3 hown' hgrow _
          have hown2 : Hid (w3.ownsRow w1.heap.size 9 1 v' ((l.take (k + 1)).filter (fun x => x ≠ u)).length (((l.take (k + 1)).filter (fun x => x ≠ u)).flatMap encStr)) := by
            show World.ownsRow _ _ _ _ _ _ _
            rw [HX.out]
            simpa using hown'
          have hbb : Below w1.heap.size w1 w3 := (hb.alloc hb.size _).grown hgrow (by have := hb.size; simp; omega) (fun g hg => (HO.out.lt g hg).1)
          clear hown' hgrow HO hb HX
          go_wp2_with fail
          go_roundw
          case rel => exact ⟨k + 1, by omega, by go_num, hown2, hbb⟩
          case measure => simp [intOf]; omega
      · obtain rfl : k = l.length := by omega
        rw [List.take_length] at HO hfl
        obtain ⟨acc, hacc⟩ : ∃ acc, l.filter (fun x => x ≠ u) = acc := ⟨_, rfl⟩
        rw [hacc] at HO hfl
        have HA := Lib.hid hacc
        clear hacc
        cases on with
        | true =>
          obtain ⟨hblk, hS, hK⟩ := rnet_offs H1.out hb hBs HO.out
          have g1 : wr.cell? ⟨m, 1, none⟩ = some vO := by rw [Lib.cell_of_heap hblk]; rfl
          have f1 : wr.frozen? ⟨m, 1, none⟩ = false := Lib.frozen_of_heap hblk 1
          obtain ⟨a8, cap8, rfl⟩ : ∃ a8 cap8, u8 = .slice a8 acc.length cap8 := by
            rcases HO.out.2 with ⟨h, h0⟩ | ⟨g, adc, cur, h, _⟩
            · exact ⟨none, 0, by rw [h, h0]⟩
            · exact ⟨_, _, h⟩
          have HS := Lib.hid hS
          clear hblk hS HO
          go_wp2_with fail
          go_ret
          rw [HR.out]
          refine ⟨rfl, ?_, (Keeps.of hb1 hBw).trans hK⟩
          dsimp only
          rw [HL.out, HA.out]
          simp only [if_true, List.append_nil]
          exact ⟨vL, _, HS.out⟩
        | false =>
          go_wp2_with (at_builtin; refine wpList_append_own _ rfl _ _ 35 rfl w1.heap.size 9 i0 (.string ⟨#[]⟩) 1 16 Tryz.underlying35 hi0 hz0 hz1 hz2 rfl (by decide) _ _ _ rfl (HO.out.alloc _) ⟨wr.heap.size, 0, none⟩ 1 1 (encStr u) rfl rfl ?c1 ?c2 ?c3 ?c4 ?c5 ?_)
          case c1 =>
            intro j u hj
            match j, hj with
            | 0, hj => simp at hj; subst hj; simp [Addr.add]
          case c2 => intro u hu; simp at hu; subst hu; rfl
          case c3 => unfold maxLen; omega
          case c4 => omega
          case c5 => have := hb.size; simp; omega
          intro v' w3 hown' hgrow _
          have hown2 : w3.ownsRow w1.heap.size 9 1 v' (acc ++ [u]).length ((acc ++ [u]).flatMap encStr) := by simpa using hown'
          have hbb : Below w1.heap.size w1 w3 := (hb.alloc hb.size _).grown hgrow (by have := hb.size; simp; omega) (fun g hg => (HO.out.lt g hg).1)
          obtain ⟨hblk, hS, hK⟩ := rnet_offs H1.out hbb hBs hown2
          have g1 : w3.cell? ⟨m, 1, none⟩ = some vO := by rw [Lib.cell_of_heap hblk]; rfl
          have f1 : w3.frozen? ⟨m, 1, none⟩ = false := Lib.frozen_of_heap hblk 1
          obtain ⟨g', cap', rfl⟩ := owns_succ hown'
          have HS := Lib.hid hS
          clear hown' hgrow HO hb hblk hS hown2 hbb
          go_wp2_with fail
          go_ret
          rw [HR.out]
          refine ⟨rfl, ?_, (Keeps.of hb1 hBw).trans hK⟩
          dsimp only
          rw [HL.out, HA.out]
          simp only [if_false, Bool.false_eq_true]
          exact ⟨vL, _, HS.out⟩
/-- What the reference's Get answers and leaves. -/
def RGetPost (B m : Nat) (r : List UInt8 × Nat × NetB) (w : World) (e : Ending) (w' : World) : Prop :=
  ∃ x : ByteArray, e = .returned (.tuple #[.string x, .int .i64 r.2.1]) ∧ Hid (bl x = r.1) ∧ RNetIs w' B m r.2.2 ∧ Keeps RNetRow B w w'
/-- The same, the net's rows where they were. -/
def RGetPostA (B m : Nat) (vL vO : Value) (r : List UInt8 × Nat × NetB) (w : World) (e : Ending) (w' : World) : Prop :=
  ∃ x : ByteArray, e = .returned (.tuple #[.string x, .int .i64 r.2.1]) ∧ Hid (bl x = r.1) ∧ RNetAt w' B m r.2.2 vL vO ∧ Keeps RNetRow B w w'
theorem rnet_calls {w : World} {B m : Nat} {n : NetB} {vL vO : Value} (h : RNetAt w B m n vL vO) :
    RNetAt (w.setCell ⟨m, 2, none⟩ (.int .i64 ((n.calls : Int) + 1))) B m { n with calls := n.calls + 1 } vL vO ∧ Keeps RNetRow B w (w.setCell ⟨m, 2, none⟩ (.int .i64 ((n.calls : Int) + 1))) :=
  ⟨⟨h.hm, rnet_set h.blk 2 _, ownsRow_setCell_other h.sites (sites_ne h) _, ownsRow_setCell_other h.offs (offs_ne_m h) _⟩, Keeps.set h.hm h.blk (.inl ⟨_, _, rfl⟩)⟩
theorem rget_mk {B m c : Nat} {n : NetB} {w1 w2 w3 w : World} {l : List UInt8} {x : ByteArray} {u : ByteArray} {vL vO : Value} {i : Int} (h : RNetAt w1 B m n vL vO) (hw : w2 = w1.setCell ⟨m, 2, none⟩ (.int .i64 ((n.calls : Int) + 1))) (hb : Below w.heap.size w w1) (hB : B ≤ w.heap.size) (hb2 : Below w2.heap.size w2 w3)
    (hr : getN n u = (l, c, { n with calls := n.calls + 1 })) (hx : bl x = l) (hi : i = (c : Int)) : RGetPostA B m vL vO (getN n u) w (.returned (.tuple #[.string x, .int .i64 i])) w3 := by
  obtain ⟨h1, h2⟩ := rnet_calls h
  subst hw
  rw [hr, hi]
  exact ⟨x, rfl, hx, h1.below hb2, (Keeps.of hb hB).trans (h2.trans (Keeps.of hb2 (Nat.le_trans hB (Nat.le_trans hb.size (by simp)))))⟩

set_option maxHeartbeats 2000000 in
set_option maxRecDepth 100000 in
theorem refGet_at (B m : Nat) (vL vO : Value) (n : NetB) (u : ByteArray) (w : World) (h : RNetAt w B m n vL vO) (hok : NetOk n) (ho : n.off.length ≤ 1000000) (hcl : n.calls ≤ 1000000000) (hu : u.size ≤ 100000) (hBw : B ≤ w.heap.size) :
    Calls Tryz.prog 37 #[.pointer (some ⟨m, 0, none⟩), .string u] w (RGetPostA B m vL vO (getN n u) w) := by
  have C := Lib.hid (refLinkError_any u w hu)
  have HN := Lib.hid h
  have Hok := Lib.hid hok
  clear h hok
  go_enter Tryz.func37, Tryz.ntmps37
  go_wp2_with fail
  refine C.out.mono ?_
  clear C
  rintro e w1 ⟨rfl, hb1⟩
  have HN1 := Lib.hid (HN.out.below hb1)
  obtain ⟨c, hc⟩ : ∃ c, linkE (bl u) = c := ⟨_, rfl⟩
  rw [hc]
  cases c with
  | succ c =>
    have hr : getN n u = ([], c + 1, n) := by unfold getN; rw [hc, if_pos (by omega)]
    have HR := Lib.hid hr
    clear hc hr
    go_wp2_with fail
    go_ret2
    rw [HR.out]
    exact ⟨⟨#[]⟩, by push_cast; rfl, rfl, HN1.out, Keeps.of hb1 hBw⟩
  | zero =>
    have HC := Lib.hid hc
    have hl0 : lkE (bl u) = 0 := by
      unfold linkE at hc
      split at hc
      · assumption
      · rename_i h; exact absurd hc h
    clear hc
    have h1 := HN1.out
    have H1 := Lib.hid h1
    have c2 : w1.cell? ⟨m, 2, none⟩ = some (.int .i64 n.calls) := by rw [Lib.cell_of_heap h1.blk]; rfl
    have f2 : w1.frozen? ⟨m, 2, none⟩ = false := Lib.frozen_of_heap h1.blk 2
    obtain ⟨h2, _⟩ := rnet_calls h1
    obtain ⟨w2, hw2⟩ : ∃ w2, w1.setCell ⟨m, 2, none⟩ (.int .i64 ((n.calls : Int) + 1)) = w2 := ⟨_, rfl⟩
    rw [hw2] at h2
    have HW := Lib.hid hw2.symm
    have H2 := Lib.hid h2
    have C := Lib.hid (refLinkParts_any u w2 hu)
    clear h1 h2
    go_wp2_with fail
    clear hw2
    refine C.out.mono ?_
    clear C
    rintro e w3 ⟨kk, z, pp, rfl, HH, _, hb3⟩
    have hz : bl z = lkH (bl u) := (HH.out hl0).1
    have h3 := H2.out.below hb3
    have c1 : w3.cell? ⟨m, 1, none⟩ = some vO := by rw [Lib.cell_of_heap h3.blk]; rfl
    have C := Lib.hid (refInTexts_any z (Row.of_owns (enc := encStr) (fun _ => rfl) h3.offs) ho)
    rw [hz] at C
    obtain ⟨o, hoo⟩ : ∃ o, (n.off.map bl).contains (lkH (bl u)) = o := ⟨_, rfl⟩
    dsimp only at C
    rw [hoo] at C
    have HO := Lib.hid hoo
    clear hoo h3 HH hz
    go_wp2_with fail
    refine C.out.mono ?_
    clear C
    rintro e w4 ⟨rfl, hb4⟩
    have hb24 := hb3.trans (hb4.mono hb3.size)
    clear c1 hb3 hb4
    cases o with
    | true =>
      have hr : getN n u = ([], 13, { n with calls := n.calls + 1 }) := by unfold getN; rw [HC.out, if_neg (by simp), if_pos HO.out]
      have HR := Lib.hid hr
      clear hr
      go_wp2_with fail
      go_ret2
      exact rget_mk H1.out HW.out hb1 hBw hb24 HR.out rfl rfl
    | false =>
      have C := Lib.hid (refFind_any B m { n with calls := n.calls + 1 } u w4 ⟨_, _, H2.out.below hb24⟩ Hok.out.few)
      dsimp only at C
      go_wp2_with fail
      refine C.out.mono ?_
      clear C
      rintro e w5 ⟨rfl, hb5⟩
      have hb25 := hb24.trans (hb5.mono hb24.size)
      clear hb24 hb5
      rcases hx : siteAt u n.sites with _ | x
      · rw [ixN_none hx]
        have hr : getN n u = ([], 6, { n with calls := n.calls + 1 }) := by unfold getN; rw [HC.out, if_neg (by simp), if_neg (by rw [HO.out]; simp), hx]
        have HR := Lib.hid hr
        clear hr hx
        go_wp2_with fail
        go_ret2
        exact rget_mk H1.out HW.out hb1 hBw hb25 HR.out rfl rfl
      · have hr : getN n u = (cutText x.text x.cut, 0, { n with calls := n.calls + 1 }) := by unfold getN; rw [HC.out, if_neg (by simp), if_neg (by rw [HO.out]; simp), hx]
        have HR := Lib.hid hr
        obtain ⟨k, hix⟩ := ix_some hx
        obtain ⟨hk, hku, hka, _, _, _⟩ := siteIx_spec hix
        rw [hix, show ixN (some k) = (k : Int) from rfl]
        obtain rfl : x = n.sites[k] := by rw [hka] at hx; exact (Option.some.inj hx).symm
        obtain ⟨_, hx2, hx3, hx4⟩ := Hok.out.small n.sites[k] (List.getElem_mem hk)
        have h5 := H2.out.below hb25
        obtain ⟨g, cap, hvl, hBg, hmg, hlc, hcm, hcur⟩ := row_block h5 hk
        have c0 : w5.cell? ⟨m, 0, none⟩ = some vL := by rw [Lib.cell_of_heap h5.blk]; rfl
        rw [hvl] at c0
        dsimp only at c0 hlc
        have hq : ∀ j, j < 3 → w5.cell? ⟨g, k * 3 + j, none⟩ = some ((encSite n.sites[k]).getD j undef) := by
          obtain ⟨ao, cap', he, _, _, hcell⟩ := (Row.of_owns (enc := encSite) (fun _ => rfl) h5.sites).three
          obtain ⟨b, off, rfl, _, hcl⟩ := hcell k hk
          rw [hvl] at he
          simp only [Value.slice.injEq, Option.some.injEq, Addr.mk.injEq, and_true, true_and] at he
          obtain ⟨⟨rfl, rfl⟩, _⟩ := he
          intro j hj
          have := hcl k hk j hj
          rw [Nat.zero_add] at this
          exact this
        have q1 : w5.cell? ⟨g, k * 3 + 1, none⟩ = some (.string n.sites[k].text) := hq 1 (by decide)
        have q2 : w5.cell? ⟨g, k * 3 + 2, none⟩ = some (.int .i64 n.sites[k].cut) := hq 2 (by decide)
        generalize n.sites[k] = x at *
        clear hr hx hix hka hcur hq h5 hku hvl
        by_cases hx0 : 0 ≤ x.cut
        · by_cases hxc : x.cut < x.text.size
          · have sl := slice_to x.text x.cut x.cut.toNat (by omega) (by omega)
            have hfin : bl (x.text.extract 0 x.cut.toNat) = cutText x.text x.cut := by
              unfold cutText
              rw [if_pos ⟨hx0, hxc⟩, bl_extract]; simp
            have HF := Lib.hid hfin
            clear hfin
            go_wp2_with fail
            go_ret2
            exact rget_mk H1.out HW.out hb1 hBw hb25 HR.out HF.out rfl
          · have hfin : bl x.text = cutText x.text x.cut := by unfold cutText; rw [if_neg (by omega)]
            have HF := Lib.hid hfin
            clear hfin
            go_wp2_with fail
            go_ret2
            exact rget_mk H1.out HW.out hb1 hBw hb25 HR.out HF.out rfl
        · have hfin : bl x.text = cutText x.text x.cut := by unfold cutText; rw [if_neg (by omega)]
          have HF := Lib.hid hfin
          clear hfin
          go_wp2_with fail
          go_ret2
          exact rget_mk H1.out HW.out hb1 hBw hb25 HR.out HF.out rfl
theorem refGet_net (B m : Nat) (n : NetB) (u : ByteArray) (w : World) (h : RNetIs w B m n) (hok : NetOk n) (ho : n.off.length ≤ 1000000) (hcl : n.calls ≤ 1000000000) (hu : u.size ≤ 100000) (hBw : B ≤ w.heap.size) :
    Calls Tryz.prog 37 #[.pointer (some ⟨m, 0, none⟩), .string u] w (RGetPost B m (getN n u) w) := by
  obtain ⟨vL, vO, hA⟩ := h
  refine (refGet_at B m vL vO n u w hA hok ho hcl hu hBw).mono ?_
  rintro e w' ⟨x, h1, h2, h3, h4⟩
  exact ⟨x, h1, h2, ⟨vL, vO, h3⟩, h4⟩
end Go.Proofs.YtomceddfbfpjjaaGreatDoor
