/- The reference's Held: in memory; NewHeld, Find, Sums, Drop: contracts. The reference's Held: Put, Drop, Copy: contracts. -/
import Derived.Test.YtomceddfbfpjjaaGreatDoorJHeldEnds
import Derived.Test.YtomceddfbfpjjaaGreatDoorJRowed
import Derived.Laws.AppendOwnNone
import Derived.Test.YtomceddfbfpjjaaGreatDoorJRefPacked
namespace Go.Proofs.YtomceddfbfpjjaaGreatDoor
open Go Go.RowKit Go.Maps

abbrev encTree (p : Int × Value) : List Value := [.int .i64 p.1, p.2]
/-- The reference's held trees at block b: their files are read in the world W0. -/
structure RHeldAt (w : World) (B b : Nat) (h : HeldB) (lv : Value) (vs : List (Int × Value)) : Prop where
  hb : B ≤ b
  blk : w.heap[b]? = some (.cells #[.int .i64 h.most, lv] 82 (0, 0))
  row : w.ownsRow B 113 2 lv vs.length (vs.flatMap encTree)
/-- A tree's value: as the caller gave it (read in the world W0), or made here. -/
def TreeV (W0 w : World) (B : Nat) (v : Value) (l : List FileB) : Prop := FArg W0 v l ∨ FOwn w B v l
theorem TreeV.arg {W0 w : World} {B : Nat} {v : Value} {l : List FileB} (h : TreeV W0 w B v l) (hb : Below W0.heap.size W0 w) : FArg w v l := by
  rcases h with h | h
  · exact h.ext hb
  · exact FOwn.arg h
theorem TreeV.keeps {K : Obj → Prop} {W0 w w' : World} {B B2 : Nat} {v : Value} {l : List FileB} (h : TreeV W0 w B v l) (hk : Keeps K B2 w w') (h1 : ∀ cs, ¬ K (.cells cs 68 (0, 0))) : TreeV W0 w' B v l := by
  rcases h with h | h
  · exact .inl h
  · exact .inr (hk.owns h h1)
/-- The values of the trees. -/
def VS (W0 w : World) (B : Nat) : List (Int × Value) → List (Int × List FileB) → Prop
  | [], [] => True
  | v :: vs, t :: ts => v.1 = t.1 ∧ TreeV W0 w B v.2 t.2 ∧ VS W0 w B vs ts
  | _, _ => False
def RHeldIs (W0 w : World) (B b : Nat) (h : HeldB) : Prop := ∃ lv vs, RHeldAt w B b h lv vs ∧ VS W0 w B vs h.trees
theorem VS.keeps {K : Obj → Prop} {W0 w w' : World} {B B2 : Nat} (hk : Keeps K B2 w w') (h1 : ∀ cs, ¬ K (.cells cs 68 (0, 0))) : ∀ {vs ts}, VS W0 w B vs ts → VS W0 w' B vs ts
  | [], [], _ => trivial
  | _ :: _, _ :: _, h => ⟨h.1, h.2.1.keeps hk h1, VS.keeps hk h1 h.2.2⟩
theorem VS.len {W0 w : World} {B : Nat} : ∀ {vs ts}, VS W0 w B vs ts → vs.length = ts.length
  | [], [], _ => rfl
  | v :: vs, t :: ts, h => by rw [List.length_cons, List.length_cons, VS.len h.2.2]
theorem VS.sums {W0 w : World} {B : Nat} : ∀ {vs ts}, VS W0 w B vs ts → vs.map (·.1) = ts.map (·.1)
  | [], [], _ => rfl
  | v :: vs, t :: ts, h => by rw [List.map_cons, List.map_cons, VS.sums h.2.2, h.1]
theorem VS.drop {W0 w : World} {B : Nat} : ∀ {vs ts} (k : Nat), VS W0 w B vs ts → VS W0 w B (vs.drop k) (ts.drop k)
  | vs, ts, 0, h => by simpa using h
  | [], [], k + 1, _ => trivial
  | v :: vs, t :: ts, k + 1, h => VS.drop k h.2.2
theorem VS.at {W0 w : World} {B : Nat} : ∀ {vs ts} (k : Nat) (h1 : k < vs.length) (h2 : k < ts.length), VS W0 w B vs ts → vs[k].1 = ts[k].1 ∧ TreeV W0 w B vs[k].2 ts[k].2
  | v :: vs, t :: ts, 0, _, _, h => ⟨h.1, h.2.1⟩
  | v :: vs, t :: ts, k + 1, h1, h2, h => VS.at k (by simpa using h1) (by simpa using h2) h.2.2
theorem RHeldIs.keeps {K : Obj → Prop} {W0 w w' : World} {B B2 b : Nat} {h : HeldB} (hi : RHeldIs W0 w B b h) (hk : Keeps K B2 w w') (h1 : ∀ cs fz, ¬ K (.cells cs 82 fz)) (h2 : ∀ cs, ¬ K (.cells cs 113 (0, 0))) (h3 : ∀ cs, ¬ K (.cells cs 68 (0, 0))) : RHeldIs W0 w' B b h := by
  obtain ⟨lv, vs, hA, hV⟩ := hi
  exact ⟨lv, vs, ⟨hA.hb, hk.keep b _ hA.blk (h1 _ _), hk.owns hA.row h2⟩, hV.keeps hk h3⟩
theorem RHeldIs.below {W0 w w' : World} {B b : Nat} {h : HeldB} (hi : RHeldIs W0 w B b h) (hb : Below w.heap.size w w') : RHeldIs W0 w' B b h :=
  hi.keeps (K := fun _ => False) (Keeps.of hb (Nat.le_refl _)) (fun _ _ h => h) (fun _ h => h) (fun _ h => h)
end Go.Proofs.YtomceddfbfpjjaaGreatDoor

namespace Go.Proofs.YtomceddfbfpjjaaGreatDoor
open Go Go.RowKit Go.Maps

def Slices (v : Value) : Prop := ∃ ao n cap, v = .slice ao n cap
theorem TreeV.slices {W0 w : World} {B : Nat} {v : Value} {l : List FileB} (h : TreeV W0 w B v l) : Slices v := by
  rcases h with ⟨⟨ao, cap, e, _⟩, _⟩ | h
  · exact ⟨ao, _, cap, e⟩
  · obtain ⟨ao, cap, e⟩ := FOwn.shape h; exact ⟨ao, _, cap, e⟩
theorem VS.slices {W0 w : World} {B : Nat} : ∀ {vs ts}, VS W0 w B vs ts → ∀ x ∈ vs, Slices x.2
  | [], [], _ => fun x hx => by cases hx
  | v :: vs, t :: ts, h => fun x hx => by
    rcases List.mem_cons.1 hx with rfl | hx
    · exact h.2.1.slices
    · exact VS.slices h.2.2 x hx
theorem Below.vs {W0 w w' : World} {B : Nat} {vs ts} (h : VS W0 w B vs ts) (hb : Below w.heap.size w w') : VS W0 w' B vs ts := h.keeps (K := fun _ => False) (B2 := w.heap.size) (Keeps.of hb (Nat.le_refl _)) (fun _ h => h)
def FaultRow (o : Obj) : Prop := ∃ cs fz, o = .cells cs 50 fz
theorem Keeps.fresh {K : Obj → Prop} {B : Nat} {w a b : World} (h : Keeps K B w a) (hb : Below w.heap.size a b) (hB : B ≤ w.heap.size) : Keeps K B w b :=
  ⟨h.below.trans (hb.mono hB), fun k o hk hn => (hb.block k (Array.getElem?_eq_some_iff.1 hk).1).trans (h.keep k o hk hn)⟩
theorem fault_keeps {w : World} {g : Nat} {a b : Value} (h : w.heap[g]? = some (.cells #[a, b] 50 (0, 0))) (x y : Value) : Keeps FaultRow g w ((w.setCell ⟨g, 0, none⟩ x).setCell ⟨g, 1, none⟩ y) := by
  have hl := (Array.getElem?_eq_some_iff.1 h).1
  have h1 : (w.setCell ⟨g, 0, none⟩ x).heap[g]? = some (.cells #[x, b] 50 (0, 0)) := by simp [World.setCell, Array.getElem?_modify, h]
  have k1 : Keeps FaultRow g w (w.setCell ⟨g, 0, none⟩ x) := Keeps.one (grown_set _ _ _ _) (Nat.le_refl _) (Nat.le_of_lt hl) h ⟨_, _, rfl⟩
  exact k1.trans (Keeps.one (grown_set _ _ _ _) (Nat.le_refl _) (Nat.le_trans (Nat.le_of_lt hl) k1.below.size) h1 ⟨_, _, rfl⟩)
theorem RHeldIs.faulted {W0 w : World} {B b g : Nat} {h : HeldB} {a c : Value} (hi : RHeldIs W0 w B b h) (hg : w.heap[g]? = some (.cells #[a, c] 50 (0, 0))) (x y : Value) : RHeldIs W0 ((w.setCell ⟨g, 0, none⟩ x).setCell ⟨g, 1, none⟩ y) B b h :=
  hi.keeps (fault_keeps hg x y) (fun cs fz ⟨_, _, h⟩ => by injection h with _ h _; exact absurd h (by decide)) (fun cs ⟨_, _, h⟩ => by injection h with _ h _; exact absurd h (by decide)) (fun cs ⟨_, _, h⟩ => by injection h with _ h _; exact absurd h (by decide))
theorem ownsRow_low {w : World} {base B size n : Nat} {e : TypeId} {v : Value} {xs : List Value} (h : w.ownsRow base e size v n xs) (hB : B ≤ base) : w.ownsRow B e size v n xs := by
  refine ⟨h.1, ?_⟩
  rcases h.2 with h0 | ⟨g, cap, cur, hv, hb, hr⟩
  · exact .inl h0
  · exact .inr ⟨g, cap, cur, hv, Nat.le_trans hB hb, hr⟩

end Go.Proofs.YtomceddfbfpjjaaGreatDoor
