/- The reference's net: Put, SetCut: contracts. -/
import Derived.Test.YtpafddeakanopaaDoorRefNet
namespace Go.Proofs.YtpafddeakanopaaDoor
open Go Go.RowKit

theorem Keeps.set {K : Obj → Prop} {B b j : Nat} {w : World} {o : Obj} {x : Value} (hB : B ≤ b) (hb : w.heap[b]? = some o) (hK : K o) : Keeps K B w (w.setCell ⟨b, j, none⟩ x) := by
  refine ⟨(Below.refl B w).setCell (p := ⟨b, j, none⟩) hB _, fun k o' hk hn => ?_⟩
  by_cases he : k = b
  · subst he; rw [hb] at hk; cases hk; exact absurd hK hn
  · rw [Below.heap_setCell _ _ _ _ he]; exact hk
theorem flatMap_set {α : Type} (enc : α → List Value) (size : Nat) (hs : ∀ x, (enc x).length = size) : ∀ (l : List α) (k : Nat) (hk : k < l.length) (j : Nat), j < size → ∀ (x : α) (a : Value), enc x = (enc l[k]).set j a → (l.set k x).flatMap enc = (l.flatMap enc).set (k * size + j) a
  | y :: l, 0, _, j, hj, x, a, h => by
    have h' : enc x = (enc y).set j a := h
    rw [List.set_cons_zero, List.flatMap_cons, List.flatMap_cons, h', Nat.zero_mul, Nat.zero_add, List.set_append_left _ _ (by rw [hs]; exact hj)]
  | y :: l, k + 1, hk, j, hj, x, a, h => by
    have hk' : k < l.length := by simpa using hk
    have h' : enc x = (enc l[k]).set j a := h
    rw [List.set_cons_succ, List.flatMap_cons, List.flatMap_cons, flatMap_set enc size hs l k hk' j hj x a h', List.set_append_right _ _ (by rw [hs, Nat.succ_mul]; omega), hs]
    congr 2
    rw [Nat.succ_mul]; omega
theorem row_block {w : World} {B m : Nat} {n : NetB} {vL vO : Value} (h : RNetAt w B m n vL vO) {k : Nat} (hk : k < n.sites.length) :
    ∃ g cap, vL = .slice (some ⟨g, 0, none⟩) n.sites.length cap ∧ B ≤ g ∧ m ≠ g ∧ n.sites.length ≤ cap ∧ cap ≤ maxLen ∧ ∃ cur, w.heap[g]? = some (.cells cur 120 (0, 0)) := by
  rcases h.sites.2 with ⟨_, h0⟩ | ⟨g, cap, cur, rfl, hb, hg, hn, hc, _, _⟩
  · omega
  · refine ⟨g, cap, rfl, hb, ?_, hn, hc, cur, hg⟩
    rintro rfl
    have := h.blk
    rw [hg] at this
    injection this with this
    injection this with _ h3 _
    exact absurd h3 (by decide)
theorem offs_ne {w : World} {B m g : Nat} {n : NetB} {vL vO : Value} {cur : Array Value} (h : RNetAt w B m n vL vO) (hg : w.heap[g]? = some (.cells cur 120 (0, 0))) : vO.ownBlock ≠ some g := by
  rcases h.offs.2 with ⟨rfl, _⟩ | ⟨g', cap, cur', rfl, hb, hg', _⟩
  · simp [Value.ownBlock]
  · intro e
    obtain rfl : g' = g := Option.some.inj e
    rw [hg] at hg'
    injection hg' with hg'
    injection hg' with _ h3 _
    exact absurd h3 (by decide)
theorem sites_ne {w : World} {B m : Nat} {n : NetB} {vL vO : Value} (h : RNetAt w B m n vL vO) : vL.ownBlock ≠ some m := by
  rcases h.sites.2 with ⟨rfl, _⟩ | ⟨g', cap, cur', rfl, hb, hg', _⟩
  · simp [Value.ownBlock]
  · intro e
    obtain rfl : g' = m := Option.some.inj e
    rw [h.blk] at hg'
    injection hg' with hg'
    injection hg' with _ h3 _
    exact absurd h3 (by decide)
theorem offs_ne_m {w : World} {B m : Nat} {n : NetB} {vL vO : Value} (h : RNetAt w B m n vL vO) : vO.ownBlock ≠ some m := by
  rcases h.offs.2 with ⟨rfl, _⟩ | ⟨g', cap, cur', rfl, hb, hg', _⟩
  · simp [Value.ownBlock]
  · intro e
    obtain rfl : g' = m := Option.some.inj e
    rw [h.blk] at hg'
    injection hg' with hg'
    injection hg' with _ h3 _
    exact absurd h3 (by decide)
/-- A site's field is stored. -/
theorem rnet_store {w : World} {B m g cap k j : Nat} {n n' : NetB} {vO x : Value} {y : SiteB} (h : RNetAt w B m n (.slice (some ⟨g, 0, none⟩) n.sites.length cap) vO) (hk : k < n.sites.length) (hj : j < 3) (hy : encSite y = (encSite n.sites[k]).set j x)
    (hB : B ≤ g) (hg : ∃ cur, w.heap[g]? = some (.cells cur 120 (0, 0))) (hs : n'.sites = n.sites.set k y) (ho : n'.off = n.off) (hc : n'.calls = n.calls) :
    RNetAt (w.setCell ⟨g, k * 3 + j, none⟩ x) B m n' (.slice (some ⟨g, 0, none⟩) n'.sites.length cap) vO ∧ Keeps RNetRow B w (w.setCell ⟨g, k * 3 + j, none⟩ x) := by
  obtain ⟨cur, hg⟩ := hg
  have hmg : m ≠ g := by
    rintro rfl
    have := h.blk
    rw [hg] at this
    injection this with this
    injection this with _ h3 _
    exact absurd h3 (by decide)
  have hl : n'.sites.length = n.sites.length := by rw [hs, List.length_set]
  refine ⟨⟨h.hm, ?_, ?_, ?_⟩, Keeps.set hB hg (.inr ⟨_, _, rfl⟩)⟩
  · rw [hl, hc, Below.heap_setCell _ _ _ _ hmg]; exact h.blk
  · rw [hl, hs, flatMap_set encSite 3 (fun _ => rfl) n.sites k hk j hj y x hy]
    exact (h.sites.stored (k * 3 + j) x).1
  · rw [ho]
    exact ownsRow_setCell_other h.offs (offs_ne h hg) x

/-- What a call on the reference's net leaves and answers. -/
def RNetPost (B m : Nat) (r : Nat × NetB) (w : World) (e : Ending) (w' : World) : Prop :=
  e = .returned (.int .i64 r.1) ∧ RNetIs w' B m r.2 ∧ Keeps RNetRow B w w'
theorem RNetPost.same {B m c : Nat} {n : NetB} {w w' : World} {i : Int} (h : RNetIs w' B m n) (hb : Below w.heap.size w w') (hB : B ≤ w.heap.size) (hi : i = (c : Int)) : RNetPost B m (c, n) w (.returned (.int .i64 i)) w' :=
  ⟨by rw [hi], h, Keeps.of hb hB⟩
theorem Tryd.infoSite : (Tryd.prog.info? 120).map (fun i => (i.zero, i.size, i.bytes)) = some (some (.agg #[.string ⟨#[]⟩, .string ⟨#[]⟩, .int .i64 0]), 3, 40) := by kernel_rfl
theorem ixInt_none {u : ByteArray} {l : List SiteB} (h : siteAt u l = none) : ixInt (siteIx u l) = -1 := by rw [siteIx_none.2 h]; rfl
theorem ix_some {u : ByteArray} {l : List SiteB} {x : SiteB} (h : siteAt u l = some x) : ∃ k, siteIx u l = some k := by
  have := siteIx_at (u := u) (l := l)
  rw [h] at this
  exact Option.isSome_iff_exists.1 this

set_option maxHeartbeats 1000000 in
set_option maxRecDepth 100000 in
theorem refSetCut_net (B m : Nat) (n : NetB) (u : ByteArray) (c : Int) (w : World) (h : RNetIs w B m n) (hok : NetOk n) (hc : c ≤ 9223372036854775807 ∧ -9223372036854775808 ≤ c) (hBw : B ≤ w.heap.size) :
    Calls Tryd.prog 56 #[.pointer (some ⟨m, 0, none⟩), .string u, .int .i64 c] w (RNetPost B m (cutN n u c) w) := by
  have C := Lib.hid (refFind_any B m n u w h hok.few)
  have HN := Lib.hid h
  have few := hok.few
  clear h hok
  go_enter Tryd.func56, Tryd.ntmps56
  go_wp2_with fail
  refine C.out.mono ?_
  clear C
  rintro e w1 ⟨rfl, hb⟩
  have HN1 := Lib.hid (HN.out.below hb)
  rcases hx : siteAt u n.sites with _ | x
  · rw [ixInt_none hx]
    have hr : cutN n u c = (6, n) := by unfold cutN; rw [hx]
    have HR := Lib.hid hr
    clear hr hx
    go_wp2_with fail
    go_ret
    rw [HR.out]
    exact RNetPost.same HN1.out hb hBw rfl
  · obtain ⟨k, hix⟩ := ix_some hx
    obtain ⟨hk, hku, hka, _, _, hset⟩ := siteIx_spec hix
    rw [hix, show ixInt (some k) = (k : Int) from rfl]
    by_cases hc0 : c < 0
    · have hr : cutN n u c = (2, n) := by unfold cutN; rw [hx]; simp only; rw [if_pos hc0]
      have HR := Lib.hid hr
      clear hr hx hix hka hset
      go_wp2_with fail
      go_ret
      rw [HR.out]
      exact RNetPost.same HN1.out hb hBw rfl
    · have hr : cutN n u c = (0, { n with sites := setCut u c n.sites }) := by unfold cutN; rw [hx]; simp only; rw [if_neg hc0]
      have HR := Lib.hid hr
      obtain ⟨vL, vO, h1⟩ := HN1.out
      obtain ⟨g, cap, rfl, hBg, hmg, hlc, hcm, hcur⟩ := row_block h1 hk
      have c0 : w1.cell? ⟨m, 0, none⟩ = some (.slice (some ⟨g, 0, none⟩) n.sites.length cap) := by rw [Lib.cell_of_heap h1.blk]; rfl
      have q2 : w1.cell? ⟨g, k * 3 + 2, none⟩ = some (.int .i64 n.sites[k].cut) := by
        have := (Row.of_owns (enc := encSite) (fun _ => rfl) h1.sites).three
        obtain ⟨ao, cap', he, _, _, hcell⟩ := this
        obtain ⟨b, off, rfl, _, hcl⟩ := hcell k hk
        simp only [Value.slice.injEq, Option.some.injEq, Addr.mk.injEq, and_true, true_and] at he
        obtain ⟨⟨rfl, rfl⟩, _⟩ := he
        have := hcl k hk 2 (by decide)
        rw [Nat.zero_add] at this
        exact this
      have f2 : w1.frozen? ⟨g, k * 3 + 2, none⟩ = false := h1.sites.frozenAt _
      obtain ⟨hS, hK⟩ := rnet_store (n' := { n with sites := setCut u c n.sites }) (y := ⟨n.sites[k].url, n.sites[k].text, c⟩) (x := .int .i64 c) (j := 2) h1 hk (by decide) rfl hBg hcur (hset c) rfl rfl
      have HS := Lib.hid hS
      clear h1 hr hx hix hka hset hcur hS
      go_wp2_with fail
      go_ret
      rw [HR.out]
      exact ⟨rfl, ⟨_, _, HS.out⟩, (Keeps.of hb hBw).trans hK⟩
end Go.Proofs.YtpafddeakanopaaDoor
