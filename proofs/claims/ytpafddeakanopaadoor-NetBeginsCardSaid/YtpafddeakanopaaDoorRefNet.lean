/- The reference's net: find, Put, Host, SetCut, Get: contracts. -/
import Derived.Test.YtpafddeakanopaaDoorNet
import Derived.Test.YtpafddeakanopaaDoorOwn
import Derived.Test.YtpafddeakanopaaDoorRefLinkErr
import Derived.Test.YtpafddeakanopaaDoorRefPart
import Derived.Maps.AppendAt
import Derived.Laws.OwnMore
namespace Go.Proofs.YtpafddeakanopaaDoor
open Go Go.RowKit

abbrev encSite (x : SiteB) : List Value := [.string x.url, .string x.text, .int .i64 x.cut]
def RNetRow (o : Obj) : Prop := (∃ cs fz, o = .cells cs 74 fz) ∨ (∃ cs fz, o = .cells cs 120 fz)

/-- The reference's net at block m. -/
structure RNetAt (w : World) (B m : Nat) (n : NetB) (vL vO : Value) : Prop where
  hm : B ≤ m
  blk : w.heap[m]? = some (.cells #[vL, vO, .int .i64 n.calls] 74 (0, 0))
  sites : w.ownsRow B 120 3 vL n.sites.length (n.sites.flatMap encSite)
  offs : w.ownsRow B 9 1 vO n.off.length (n.off.flatMap encStr)
def RNetIs (w : World) (B m : Nat) (n : NetB) : Prop := ∃ vL vO, RNetAt w B m n vL vO

theorem Keeps.owns {K : Obj → Prop} {B base : Nat} {w w' : World} {e : TypeId} {size n : Nat} {v : Value} {xs : List Value} (h : Keeps K B w w') (hw : w.ownsRow base e size v n xs) (h1 : ∀ cs, ¬ K (.cells cs e (0, 0))) : w'.ownsRow base e size v n xs := by
  refine ⟨hw.1, ?_⟩
  rcases hw.2 with h0 | ⟨g, cap, cur, hv, hb, hg, hr⟩
  · exact .inl h0
  · exact .inr ⟨g, cap, cur, hv, hb, h.keep g _ hg (h1 _), hr⟩
theorem RNetIs.keeps {K : Obj → Prop} {w w' : World} {B B2 m : Nat} {n : NetB} (h : RNetIs w B m n) (hk : Keeps K B2 w w') (h1 : ∀ cs, ¬ K (.cells cs 74 (0, 0))) (h2 : ∀ cs, ¬ K (.cells cs 120 (0, 0))) (h3 : ∀ cs, ¬ K (.cells cs 9 (0, 0))) : RNetIs w' B m n := by
  obtain ⟨vL, vO, h⟩ := h
  exact ⟨vL, vO, h.hm, hk.keep m _ h.blk (h1 _), hk.owns h.sites h2, hk.owns h.offs h3⟩
theorem RNetAt.below {w w' : World} {B m : Nat} {n : NetB} {vL vO : Value} (h : RNetAt w B m n vL vO) (hb : Below w.heap.size w w') : RNetAt w' B m n vL vO :=
  ⟨h.hm, by rw [hb.block m (Array.getElem?_eq_some_iff.1 h.blk).1]; exact h.blk, owns_below h.sites hb, owns_below h.offs hb⟩
theorem RNetIs.below {w w' : World} {B m : Nat} {n : NetB} (h : RNetIs w B m n) (hb : Below w.heap.size w w') : RNetIs w' B m n := by
  obtain ⟨vL, vO, h⟩ := h
  exact ⟨vL, vO, h.below hb⟩

/-- Elements of three cells. -/
theorem Row.three {α : Type} {enc : α → List Value} {w : World} {v : Value} {l : List α} (h : Row enc 3 w v l) :
    ∃ ao cap, v = .slice ao l.length cap ∧ l.length ≤ cap ∧ cap ≤ maxLen ∧ (∀ i, (hi : i < l.length) → ∃ b off, ao = some ⟨b, off, none⟩ ∧ b < w.heap.size ∧ ∀ k, (hk : k < l.length) → ∀ j, j < 3 → w.cell? ⟨b, off + k * 3 + j, none⟩ = some ((enc l[k]).getD j undef)) := by
  rcases h with ⟨rfl, rfl⟩ | ⟨b, off, cap, rfl, h1, h2, h3, h4⟩
  · exact ⟨none, 0, rfl, Nat.le_refl _, Nat.zero_le _, fun i hi => absurd hi (Nat.not_lt_zero _)⟩
  · exact ⟨some ⟨b, off, none⟩, cap, rfl, h1, h2, fun i hi => ⟨b, off, rfl, h3, h4⟩⟩

theorem siteIx_of {u : ByteArray} : ∀ {l : List SiteB} {k : Nat} (hk : k < l.length), l[k].url = u → (∀ j, (hj : j < k) → l[j].url ≠ u) → siteIx u l = some k
  | x :: l, 0, _, h, _ => by
    have h' : x.url = u := h
    unfold siteIx; rw [if_pos h']
  | x :: l, k + 1, hk, h, hj => by
    have h0 : x.url ≠ u := hj 0 (by omega)
    unfold siteIx
    rw [if_neg h0, siteIx_of (l := l) (k := k) (by simpa using hk) h (fun j hj' => hj (j + 1) (by omega))]
    rfl
theorem siteIx_end {u : ByteArray} {l : List SiteB} (h : ∀ j, (hj : j < l.length) → l[j].url ≠ u) : siteIx u l = none := by
  rw [siteIx_none, siteAt_none]
  intro x hx
  obtain ⟨j, hj, rfl⟩ := List.mem_iff_getElem.1 hx
  exact h j hj
def ixInt : Option Nat → Int
  | some k => k
  | none => -1

set_option maxHeartbeats 1000000 in
set_option maxRecDepth 100000 in
theorem refFind_any (B m : Nat) (n : NetB) (u : ByteArray) (w : World) (h : RNetIs w B m n) (hn : n.sites.length ≤ 60) :
    Calls Tryd.prog 72 #[.pointer (some ⟨m, 0, none⟩), .string u] w fun e w' => e = .returned (.int .i64 (ixInt (siteIx u n.sites))) ∧ Below w.heap.size w w' := by
  obtain ⟨vL, vO, h⟩ := h
  obtain ⟨ao, cap, rfl, h1, h2, H3⟩ := (Row.of_owns (enc := encSite) (fun _ => rfl) h.sites).three
  have c0 : w.cell? ⟨m, 0, none⟩ = some (.slice ao n.sites.length cap) := by rw [Lib.cell_of_heap h.blk]; rfl
  have HM := Lib.hid H3
  clear H3 h
  obtain ⟨l, hl⟩ : ∃ l, n.sites = l := ⟨_, rfl⟩
  rw [hl] at HM c0 hn h1 ⊢
  clear hl
  go_enter Tryd.func72, Tryd.ntmps72
  go_wp2_with fail
  go_loopw [5] (fun i wr => ∃ k : Nat, k ≤ l.length ∧ i = .int .i64 k ∧ Hid (∀ j, (hj : j < l.length) → j < k → l[j].url ≠ u) ∧ wr = w) (fun i _ => l.length - (intOf i).toNat)
  case atStart => exact ⟨0, Nat.zero_le _, rfl, (fun j _ hj => absurd hj (Nat.not_lt_zero _)), rfl⟩
  case round =>
    obtain ⟨k, hk, rfl, HJ, rfl⟩ := hrel
    by_cases hlt : k < l.length
    · obtain ⟨b, off, rfl, _, hcell⟩ := HM.out k hlt
      have q0 : wr.cell? ⟨b, off + k * 3 + 0, none⟩ = some (.string l[k].url) := hcell k hlt 0 (by decide)
      rw [Nat.add_zero] at q0
      clear hcell
      obtain ⟨z, hz⟩ : ∃ z, l[k].url = z := ⟨_, rfl⟩
      rw [hz] at q0
      have HZ := Lib.hid hz
      obtain ⟨e, he⟩ : ∃ e, (z.toList == u.toList) = e := ⟨_, rfl⟩
      have HEq := Lib.hid he
      clear hz
      cases e with
      | true =>
        go_wp2_with fail
        go_ret
        have hzu : z = u := by
          have := beq_iff_eq.1 he
          rw [toList_bl, toList_bl] at this
          exact bl_eq this
        refine ⟨?_, Below.refl _ _⟩
        rw [siteIx_of hlt (by rw [HZ.out, hzu]) (fun j hj => HJ.out j (by omega) hj)]
        rfl
      | false =>
        have H2 : Hid (∀ j, (hj : j < l.length) → j < k + 1 → l[j].url ≠ u) := by
          intro j hj hjk
          by_cases hjk' : j < k
          · exact HJ.out j hj hjk'
          · obtain rfl : j = k := by omega
            rw [HZ.out]
            rintro rfl
            rw [beq_self_eq_true] at he
            cases he
        go_wp2_with fail
        go_roundw
        case rel => exact ⟨k + 1, by omega, by go_num, H2, trivial⟩
        case measure => simp [intOf]; omega
    · obtain rfl : k = l.length := by omega
      go_wp2_with fail
      go_ret
      refine ⟨?_, Below.refl _ _⟩
      rw [siteIx_end (fun j hj => HJ.out j hj hj)]
      rfl
end Go.Proofs.YtpafddeakanopaaDoor
