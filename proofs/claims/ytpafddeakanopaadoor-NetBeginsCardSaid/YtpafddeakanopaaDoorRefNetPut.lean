/- The reference's net: Put, Host: contracts. -/
import Derived.Test.YtpafddeakanopaaDoorRefNetOf
namespace Go.Proofs.YtpafddeakanopaaDoor
open Go Go.RowKit

theorem owns_base2 {base B : Nat} {e : TypeId} {size : Nat} {w : World} {v : Value} {n : Nat} {xs : List Value} (h : w.ownsRow base e size v n xs) (hB : B ≤ base) : w.ownsRow B e size v n xs := by
  refine ⟨h.1, ?_⟩
  rcases h.2 with h0 | ⟨g, cap, cur, hv, hb, hr⟩
  · exact .inl h0
  · exact .inr ⟨g, cap, cur, hv, Nat.le_trans hB hb, hr⟩
/-- A field of the net's own block is stored. -/
theorem rnet_set {w : World} {m : Nat} {cs : Array Value} (hb : w.heap[m]? = some (.cells cs 74 (0, 0))) (j : Nat) (x : Value) :
    (w.setCell ⟨m, j, none⟩ x).heap[m]? = some (.cells (cs.setIfInBounds j x) 74 (0, 0)) := by
  simp [World.setCell, Array.getElem?_modify, hb]

theorem owns_succ {W : World} {base : Nat} {e : TypeId} {size : Nat} {v : Value} {k : Nat} {xs : List Value} (h : W.ownsRow base e size v (k + 1) xs) : ∃ g cap, v = .slice (some ⟨g, 0, none⟩) (k + 1) cap := by
  rcases h.2 with ⟨_, h0⟩ | ⟨g, cap, cur, hv, _⟩
  · cases h0
  · exact ⟨g, cap, hv⟩
theorem notR_str (cs : Array Value) : ¬ RNetRow (.cells cs 9 (0, 0)) := by
  rintro (⟨c, fz, h⟩ | ⟨c, fz, h⟩) <;> (injection h with _ h3 _; exact absurd h3 (by decide))
theorem keeps_grown {K : Obj → Prop} {w w' : World} {B size n : Nat} {e : TypeId} {v : Value} {xs : List Value} (h : w.ownsRow B e size v n xs) (hg : w.grownBy w' v.ownBlock) (hB : B ≤ w.heap.size) (hK : ∀ cs, K (.cells cs e (0, 0))) : Keeps K B w w' := by
  refine ⟨(Below.refl B w).grown hg hB (fun g e => (h.lt g e).1), fun k o hk hn => ?_⟩
  rw [hg.block k (Array.getElem?_eq_some_iff.1 hk).1 (fun e => hn ?_)]
  · exact hk
  · rcases h.2 with ⟨rfl, _⟩ | ⟨g, cap, cur, rfl, _, hgg, _⟩
    · simp [Value.ownBlock] at e
    · obtain rfl : k = g := Option.some.inj e
      rw [hgg] at hk
      cases hk
      exact hK _
/-- A site comes last. -/
theorem rnet_append {w w3 : World} {B m : Nat} {n : NetB} {vL vO v' : Value} {x : SiteB} {o : Obj} (h : RNetAt w B m n vL vO) (hB : B ≤ w.heap.size) (hown : w3.ownsRow B 120 3 v' (n.sites.length + 1) (n.sites.flatMap encSite ++ encSite x)) (hg : (w.alloc o).grownBy w3 vL.ownBlock)
    (hloc : v'.ownBlock = vL.ownBlock ∨ v'.ownBlock = some (w.heap.size + 1)) :
    w3.heap[m]? = some (.cells #[vL, vO, .int .i64 n.calls] 74 (0, 0)) ∧ RNetAt (w3.setCell ⟨m, 0, none⟩ v') B m { n with sites := n.sites ++ [x] } v' vO ∧ Keeps RNetRow B w (w3.setCell ⟨m, 0, none⟩ v') := by
  have hm : m < w.heap.size := (Array.getElem?_eq_some_iff.1 h.blk).1
  have hal : Keeps RNetRow B w (w.alloc o) := Keeps.of ((Below.refl _ _).alloc (Nat.le_refl _) _) hB
  have hs1 : (w.alloc o).heap.size = w.heap.size + 1 := by simp only [World.size_alloc]
  have hk : Keeps RNetRow B w w3 := hal.trans (keeps_grown (h.sites.alloc o) hg (by omega) (fun cs => .inr ⟨_, _, rfl⟩))
  have hblk : w3.heap[m]? = some (.cells #[vL, vO, .int .i64 n.calls] 74 (0, 0)) := by
    rw [hg.block m (by omega) (fun e => sites_ne h e.symm), Below.heap_alloc _ _ _ hm]; exact h.blk
  have hne : v'.ownBlock ≠ some m := by
    rcases hloc with e | e
    · rw [e]; exact sites_ne h
    · rw [e]; intro e2; have := Option.some.inj e2; omega
  refine ⟨hblk, ⟨h.hm, rnet_set hblk 0 v', ?_, ?_⟩, hk.trans (Keeps.set h.hm hblk (.inl ⟨_, _, rfl⟩))⟩
  · refine ownsRow_setCell_other ?_ hne v'
    rw [List.length_append, List.flatMap_append]
    simpa using hown
  · have h1 := hk.owns h.offs notR_str
    refine ownsRow_setCell_other h1 ?_ v'
    exact offs_ne_m h

set_option maxHeartbeats 1000000 in
set_option maxRecDepth 100000 in
theorem refPut_net (B m : Nat) (n : NetB) (u s : ByteArray) (w : World) (h : RNetIs w B m n) (hok : NetOk n) (hu : u.size ≤ 100000) (hs : s.size ≤ 100000000) (hBw : B ≤ w.heap.size) :
    Calls Tryd.prog 54 #[.pointer (some ⟨m, 0, none⟩), .string u, .string s] w (RNetPost B m (putN n u s) w) := by
  obtain ⟨i1, hi1, hy0, hy1, hy2⟩ := info_parts Tryd.infoSite
  have C := Lib.hid (refLinkError_any u w hu)
  have HN := Lib.hid h
  have few := hok.few
  clear h hok
  go_enter Tryd.func54, Tryd.ntmps54
  go_wp2_with fail
  refine C.out.mono ?_
  clear C
  rintro e w1 ⟨rfl, hb1⟩
  have HN1 := Lib.hid (HN.out.below hb1)
  obtain ⟨c, hc⟩ : ∃ c, linkE (bl u) = c := ⟨_, rfl⟩
  rw [hc]
  cases c with
  | succ c =>
    have hr : putN n u s = (c + 1, n) := by unfold putN; rw [hc, if_pos (by omega)]
    have HR := Lib.hid hr
    clear hc hr
    go_wp2_with fail
    go_ret
    rw [HR.out]
    exact RNetPost.same HN1.out hb1 hBw (by push_cast; rfl)
  | zero =>
    have HC := Lib.hid hc
    clear hc
    by_cases hs2 : 20000 < s.size
    · have hr : putN n u s = (2, n) := by unfold putN; rw [if_neg (by rw [HC.out]; simp), if_pos hs2]
      have HR := Lib.hid hr
      clear hr
      go_wp2_with fail
      go_ret
      rw [HR.out]
      exact RNetPost.same HN1.out hb1 hBw rfl
    · have C := Lib.hid (refFind_any B m n u w1 HN1.out few)
      go_wp2_with fail
      refine C.out.mono ?_
      clear C HN1
      rintro e w2 ⟨rfl, hb2⟩
      have hb := hb1.trans (hb2.mono hb1.size)
      have HN2 := Lib.hid (HN.out.below hb)
      rcases hx : siteAt u n.sites with _ | x
      · rw [ixInt_none hx]
        obtain ⟨vL, vO, h2⟩ := HN2.out
        have H2 := Lib.hid h2
        have c0 : w2.cell? ⟨m, 0, none⟩ = some vL := by rw [Lib.cell_of_heap h2.blk]; rfl
        obtain ⟨ao, cap, hvl, hlc, hcm, _⟩ := (Row.of_owns (enc := encSite) (fun _ => rfl) h2.sites).three
        by_cases h60 : 60 ≤ n.sites.length
        · have hr : putN n u s = (8, n) := by unfold putN; rw [if_neg (by rw [HC.out]; simp), if_neg hs2, hx]; simp only; rw [if_pos h60]
          have HR := Lib.hid hr
          rw [hvl] at c0
          clear hr hx h2
          go_wp2_with fail
          go_ret
          rw [HR.out]
          exact RNetPost.same HN2.out hb hBw rfl
        · have hr : putN n u s = (0, { n with sites := n.sites ++ [⟨u, s, -1⟩] }) := by unfold putN; rw [if_neg (by rw [HC.out]; simp), if_neg hs2, hx]; simp only; rw [if_neg h60]
          have HR := Lib.hid hr
          have hown := h2.sites
          rw [hvl] at c0 hown
          have HO := Lib.hid hown
          have hne := sites_ne h2
          rw [hvl] at hne
          have hmlt : m < w2.heap.size := (Array.getElem?_eq_some_iff.1 h2.blk).1
          have hBs : B ≤ w2.heap.size := Nat.le_trans hBw hb.size
          clear hr hx h2 hown
          go_wp2_with (at_builtin; refine wpList_append_own_at _ rfl _ _ 72 rfl B 120 i1 (.agg #[.string ⟨#[]⟩, .string ⟨#[]⟩, .int .i64 0]) 3 40 Tryd.underlying72 hi1 hy0 hy1 hy2 rfl (by decide) _ _ _ rfl (HO.out.alloc _) ⟨w2.heap.size, 0, none⟩ 1 1 (encSite ⟨u, s, -1⟩) rfl rfl ?c1 ?c2 ?c3 ?c4 ?c5 ?_)
          case c1 =>
            intro j v hj
            match j, hj with
            | 0, hj => simp at hj; subst hj; simp [Addr.add]
            | 1, hj => simp at hj; subst hj; simp [Addr.add]
            | 2, hj => simp at hj; subst hj; simp [Addr.add]
          case c2 => intro v hv; simp at hv; rcases hv with rfl | rfl | rfl <;> rfl
          case c3 => unfold maxLen; omega
          case c4 => omega
          case c5 => simp; omega
          intro v' w3 hown' hgrow _ hloc
          have hg2 : (w2.alloc (.cells #[.string u, .string s, .int .i64 (-1)] 120)).grownBy w3 vL.ownBlock := by rw [hvl]; exact hgrow
          obtain ⟨hblk, hS, hK⟩ := rnet_append (x := ⟨u, s, -1⟩) H2.out hBs hown' hg2 (by rw [hvl]; exact hloc)
          have g0 : w3.cell? ⟨m, 0, none⟩ = some vL := by rw [Lib.cell_of_heap hblk]; rfl
          have f0 : w3.frozen? ⟨m, 0, none⟩ = false := Lib.frozen_of_heap hblk 0
          have HS := Lib.hid hS
          obtain ⟨g', cap', rfl⟩ := owns_succ hown'
          clear hown' hgrow hg2 hloc hblk hS c0
          go_wp2_with fail
          go_ret
          rw [HR.out]
          exact ⟨rfl, ⟨_, _, HS.out⟩, (Keeps.of hb hBw).trans hK⟩
      · obtain ⟨k, hix⟩ := ix_some hx
        obtain ⟨hk, hku, hka, _, hset, _⟩ := siteIx_spec hix
        rw [hix, show ixInt (some k) = (k : Int) from rfl]
        have hr : putN n u s = (0, { n with sites := setSite u s (-1) n.sites }) := by unfold putN; rw [if_neg (by rw [HC.out]; simp), if_neg hs2, hx]
        have HR := Lib.hid hr
        obtain ⟨vL, vO, h1⟩ := HN2.out
        obtain ⟨g, cap, rfl, hBg, hmg, hlc, hcm, hcur⟩ := row_block h1 hk
        have c0 : w2.cell? ⟨m, 0, none⟩ = some (.slice (some ⟨g, 0, none⟩) n.sites.length cap) := by rw [Lib.cell_of_heap h1.blk]; rfl
        have hq : ∀ j, j < 3 → w2.cell? ⟨g, k * 3 + j, none⟩ = some ((encSite n.sites[k]).getD j undef) := by
          obtain ⟨ao, cap', he, _, _, hcell⟩ := (Row.of_owns (enc := encSite) (fun _ => rfl) h1.sites).three
          obtain ⟨b, off, rfl, _, hcl⟩ := hcell k hk
          simp only [Value.slice.injEq, Option.some.injEq, Addr.mk.injEq, and_true, true_and] at he
          obtain ⟨⟨rfl, rfl⟩, _⟩ := he
          intro j hj
          have := hcl k hk j hj
          rw [Nat.zero_add] at this
          exact this
        have q1 : w2.cell? ⟨g, k * 3 + 1, none⟩ = some (.string n.sites[k].text) := hq 1 (by decide)
        have q2 : w2.cell? ⟨g, k * 3 + 2, none⟩ = some (.int .i64 n.sites[k].cut) := hq 2 (by decide)
        have f1 : w2.frozen? ⟨g, k * 3 + 1, none⟩ = false := h1.sites.frozenAt _
        have f2 : w2.frozen? ⟨g, k * 3 + 2, none⟩ = false := h1.sites.frozenAt _
        obtain ⟨hS1, hK1⟩ := rnet_store (n' := { n with sites := n.sites.set k ⟨n.sites[k].url, s, n.sites[k].cut⟩ }) (y := ⟨n.sites[k].url, s, n.sites[k].cut⟩) (x := .string s) (j := 1) h1 hk (by decide) rfl hBg hcur rfl rfl rfl
        have hcur2 : ∃ cur, (w2.setCell ⟨g, k * 3 + 1, none⟩ (.string s)).heap[g]? = some (.cells cur 120 (0, 0)) := by
          obtain ⟨cur, hg⟩ := hcur
          exact ⟨_, by simp [World.setCell, Array.getElem?_modify, hg]; rfl⟩
        obtain ⟨hS, hK⟩ := rnet_store (n' := { n with sites := setSite u s (-1) n.sites }) (y := ⟨n.sites[k].url, s, -1⟩) (x := .int .i64 (-1)) (j := 2) hS1 (by simpa using hk) (by decide) (by simp) hBg hcur2 (by rw [hset]; simp) rfl rfl
        have HS := Lib.hid hS
        have hK2 := hK1.trans hK
        clear h1 hr hx hix hka hset hcur hcur2 hS hS1 hK hK1 hq
        go_wp2_with fail
        go_ret
        rw [HR.out]
        exact ⟨rfl, ⟨_, _, HS.out⟩, (Keeps.of hb hBw).trans hK2⟩
end Go.Proofs.YtpafddeakanopaaDoor
