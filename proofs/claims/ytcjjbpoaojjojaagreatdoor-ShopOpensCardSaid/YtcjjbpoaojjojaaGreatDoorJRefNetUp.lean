/- The reference's net: find, Put, Host, SetCut, Get: contracts. The reference's net: Put, SetCut: contracts. The reference's net: Put, Host: contracts. The reference's net: Host, Get: contracts. -/
import Derived.Test.YtcjjbpoaojjojaaGreatDoorJNetUp
import Derived.Test.YtcjjbpoaojjojaaGreatDoorJRowedEtc
import Derived.Test.YtcjjbpoaojjojaaGreatDoorJRefLinkUp
import Derived.Test.YtcjjbpoaojjojaaGreatDoorJPathedEtc
import Derived.Maps.AppendAt
import Derived.Laws.OwnMore
namespace Go.Proofs.YtcjjbpoaojjojaaGreatDoor
open Go Go.RowKit

abbrev encSite (x : SiteB) : List Value := [.string x.url, .string x.text, .int .i64 x.cut]
def RNetRow (o : Obj) : Prop := (∃ cs fz, o = .cells cs 44 fz) ∨ (∃ cs fz, o = .cells cs 272 fz)

/-- The reference's net at block m. -/
structure RNetAt (w : World) (B m : Nat) (n : NetB) (vL vO : Value) : Prop where
  hm : B ≤ m
  blk : w.heap[m]? = some (.cells #[vL, vO, .int .i64 n.calls] 44 (0, 0))
  sites : w.ownsRow B 272 3 vL n.sites.length (n.sites.flatMap encSite)
  offs : w.ownsRow B 9 1 vO n.off.length (n.off.flatMap encStr)
def RNetIs (w : World) (B m : Nat) (n : NetB) : Prop := ∃ vL vO, RNetAt w B m n vL vO

theorem RNetIs.keeps {K : Obj → Prop} {w w' : World} {B B2 m : Nat} {n : NetB} (h : RNetIs w B m n) (hk : Keeps K B2 w w') (h1 : ∀ cs, ¬ K (.cells cs 44 (0, 0))) (h2 : ∀ cs, ¬ K (.cells cs 272 (0, 0))) (h3 : ∀ cs, ¬ K (.cells cs 9 (0, 0))) : RNetIs w' B m n := by
  obtain ⟨vL, vO, h⟩ := h
  exact ⟨vL, vO, h.hm, hk.keep m _ h.blk (h1 _), hk.owns h.sites h2, hk.owns h.offs h3⟩
theorem RNetAt.below {w w' : World} {B m : Nat} {n : NetB} {vL vO : Value} (h : RNetAt w B m n vL vO) (hb : Below w.heap.size w w') : RNetAt w' B m n vL vO :=
  ⟨h.hm, by rw [hb.block m (Array.getElem?_eq_some_iff.1 h.blk).1]; exact h.blk, owns_below h.sites hb, owns_below h.offs hb⟩
theorem RNetIs.below {w w' : World} {B m : Nat} {n : NetB} (h : RNetIs w B m n) (hb : Below w.heap.size w w') : RNetIs w' B m n := by
  obtain ⟨vL, vO, h⟩ := h
  exact ⟨vL, vO, h.below hb⟩

/-- Elements of three cells. -/
theorem Row.three {α : Type} {enc : α → List Value} {w : World} {v : Value} {l : List α} (h : Row enc 3 w v l) :
    ∃ ao cap, v = .slice ao l.length cap ∧ l.length ≤ cap ∧ cap ≤ maxLen ∧ (∀ i, (hi : i < l.length) → ∃ b off, ao = some ⟨b, off, none⟩ ∧ b < w.heap.size ∧ ∀ k, (hk : k < l.length) → ∀ j, j < 3 → w.cell? ⟨b, off + k * 3 + j, none⟩ = some ((enc l[k]).getD j undef)) := by
  rcases h with ⟨rfl, rfl⟩ | ⟨b, off, cap, rfl, h1, h2, h3, h4⟩
  · exact ⟨none, 0, rfl, Nat.le_refl _, Nat.zero_le _, fun i hi => absurd hi (Nat.not_lt_zero _)⟩
  · exact ⟨some ⟨b, off, none⟩, cap, rfl, h1, h2, fun i hi => ⟨b, off, rfl, h3, h4⟩⟩

end Go.Proofs.YtcjjbpoaojjojaaGreatDoor

namespace Go.Proofs.YtcjjbpoaojjojaaGreatDoor
open Go Go.RowKit

theorem Keeps.set {K : Obj → Prop} {B b j : Nat} {w : World} {o : Obj} {x : Value} (hB : B ≤ b) (hb : w.heap[b]? = some o) (hK : K o) : Keeps K B w (w.setCell ⟨b, j, none⟩ x) := by
  refine ⟨(Below.refl B w).setCell (p := ⟨b, j, none⟩) hB _, fun k o' hk hn => ?_⟩
  by_cases he : k = b
  · subst he; rw [hb] at hk; cases hk; exact absurd hK hn
  · rw [Below.heap_setCell _ _ _ _ he]; exact hk
/-- What a call on the reference's net leaves and answers. -/
def RNetPost (B m : Nat) (r : Nat × NetB) (w : World) (e : Ending) (w' : World) : Prop :=
  e = .returned (.int .i64 r.1) ∧ RNetIs w' B m r.2 ∧ Keeps RNetRow B w w'
theorem RNetPost.same {B m c : Nat} {n : NetB} {w w' : World} {i : Int} (h : RNetIs w' B m n) (hb : Below w.heap.size w w') (hB : B ≤ w.heap.size) (hi : i = (c : Int)) : RNetPost B m (c, n) w (.returned (.int .i64 i)) w' :=
  ⟨by rw [hi], h, Keeps.of hb hB⟩
end Go.Proofs.YtcjjbpoaojjojaaGreatDoor

namespace Go.Proofs.YtcjjbpoaojjojaaGreatDoor
open Go Go.RowKit

end Go.Proofs.YtcjjbpoaojjojaaGreatDoor

namespace Go.Proofs.YtcjjbpoaojjojaaGreatDoor
open Go Go.RowKit

end Go.Proofs.YtcjjbpoaojjojaaGreatDoor
