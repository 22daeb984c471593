/- Rows of trees: of the call's own; handed in. package lock: Bundle by its contract. package lock: Split by its contract. -/
import Derived.Test.YtcjjbpoaojjojaaGreatDoorJHeldEnds
import Derived.Test.YtcjjbpoaojjojaaGreatDoorJLockUpEtc
import Derived.Test.YtcjjbpoaojjojaaGreatDoorJLockHeldPlains
import Derived.Test.YtcjjbpoaojjojaaGreatDoorJTreeSortEtc
import Derived.Deep.RegionWith
import Derived.Test.YtcjjbpoaojjojaaGreatDoorJFilesEtc
import Derived.Test.YtcjjbpoaojjojaaGreatDoorJPackedUpEtc
import Derived.BigQuiet
namespace Go.Proofs.YtcjjbpoaojjojaaGreatDoor
open Go Go.RowKit Go.Maps

/-- Two rows of different kinds lie in different blocks. -/
theorem rows_apart {w : World} {base base' : Nat} {e e' : TypeId} {size size' n n' : Nat} {v v' : Value} {xs xs' : List Value} (h : w.ownsRow base e size v n xs) (h' : w.ownsRow base' e' size' v' n' xs') (hne : e ≠ e') : v.ownBlock = none ∨ v.ownBlock ≠ v'.ownBlock := by
  rcases h.2 with ⟨rfl, _⟩ | ⟨g, cap, cur, rfl, _, hg, _⟩
  · exact .inl rfl
  · rcases h'.2 with ⟨rfl, _⟩ | ⟨g', cap', cur', rfl, _, hg', _⟩
    · exact .inr (fun e => by cases e)
    · refine .inr (fun e => ?_)
      obtain rfl : g = g' := by injection e
      rw [hg] at hg'
      injection hg' with hg'
      injection hg' with _ h2 _
      exact hne h2
theorem row_low {w : World} {base B size n : Nat} {e : TypeId} {v : Value} {xs : List Value} (h : w.ownsRow base e size v n xs) (hB : B ≤ base) : w.ownsRow B e size v n xs := by
  refine ⟨h.1, ?_⟩
  rcases h.2 with h0 | ⟨g, cap, cur, hv, hb, hr⟩
  · exact .inl h0
  · exact .inr ⟨g, cap, cur, hv, Nat.le_trans hB hb, hr⟩
/-- Values, each a row of files of the call's own. -/
def FVs (w : World) (B : Nat) : List Value → List (List FileB) → Prop
  | [], [] => True
  | v :: vs, t :: ts => FOwn w B v t ∧ FVs w B vs ts
  | _, _ => False
theorem FVs.len {w : World} {B : Nat} : ∀ {vs ts}, FVs w B vs ts → vs.length = ts.length
  | [], [], _ => rfl
  | v :: vs, t :: ts, h => by rw [List.length_cons, List.length_cons, FVs.len h.2]
theorem FVs.map {w w' : World} {B B' : Nat} (hk : ∀ v t, FOwn w B v t → FOwn w' B' v t) : ∀ {vs ts}, FVs w B vs ts → FVs w' B' vs ts
  | [], [], _ => trivial
  | _ :: _, _ :: _, h => ⟨hk _ _ h.1, FVs.map hk h.2⟩
theorem FVs.snoc {w : World} {B : Nat} : ∀ {vs ts} {v : Value} {t : List FileB}, FVs w B vs ts → FOwn w B v t → FVs w B (vs ++ [v]) (ts ++ [t])
  | [], [], _, _, _, hf => ⟨hf, trivial⟩
  | _ :: _, _ :: _, _, _, h, hf => ⟨h.1, FVs.snoc h.2 hf⟩
theorem FVs.at {w : World} {B : Nat} : ∀ {vs ts} (k : Nat) (h1 : k < vs.length) (h2 : k < ts.length), FVs w B vs ts → FOwn w B vs[k] ts[k]
  | v :: vs, t :: ts, 0, _, _, h => h.1
  | v :: vs, t :: ts, k + 1, h1, h2, h => FVs.at k (by simpa using h1) (by simpa using h2) h.2
theorem FVs.one {w : World} {B : Nat} : ∀ {vs ts}, FVs w B vs ts → ∀ u ∈ vs, u.oneCell' = true
  | [], [], _, u, hu => by cases hu
  | v :: vs, t :: ts, h, u, hu => by
    rcases List.mem_cons.1 hu with rfl | hu
    · obtain ⟨ao, cap, rfl⟩ := h.1.shape; rfl
    · exact FVs.one h.2 u hu
/-- Trees of the call's own. -/
def TsOwn (w : World) (B : Nat) (v : Value) (ts : List (List FileB)) : Prop := ∃ vs, w.ownsRow B 74 1 v ts.length vs ∧ FVs w B vs ts
theorem TsOwn.nil (w : World) (B : Nat) : TsOwn w B (.slice none 0 0) [] := ⟨[], World.ownsRow_nil _ _ _ _, trivial⟩
theorem TsOwn.shape {w : World} {B : Nat} {v : Value} {ts : List (List FileB)} (h : TsOwn w B v ts) : ∃ ao cap, v = .slice ao ts.length cap := by
  obtain ⟨vs, h1, _⟩ := h
  rcases h1.2 with ⟨rfl, h0⟩ | ⟨g, cap, cur, rfl, _⟩
  · exact ⟨none, 0, by rw [h0]⟩
  · exact ⟨_, _, rfl⟩
theorem TsOwn.ext {w w' : World} {B : Nat} {v : Value} {ts : List (List FileB)} (h : TsOwn w B v ts) (hb : Below w.heap.size w w') : TsOwn w' B v ts := by
  obtain ⟨vs, h1, h2⟩ := h
  exact ⟨vs, owns_below h1 hb, h2.map fun _ _ h => h.ext hb⟩
theorem TsOwn.low {w : World} {B B' : Nat} {v : Value} {ts : List (List FileB)} (h : TsOwn w B v ts) (hb : B' ≤ B) : TsOwn w B' v ts := by
  obtain ⟨vs, h1, h2⟩ := h
  exact ⟨vs, row_low h1 hb, h2.map fun _ _ h => h.low hb⟩
theorem TsOwn.keeps {K : Obj → Prop} {w w' : World} {B B2 : Nat} {v : Value} {ts : List (List FileB)} (h : TsOwn w B v ts) (hk : Keeps K B2 w w') (h1 : ∀ cs, ¬ K (.cells cs 74 (0, 0))) (h2 : ∀ cs, ¬ K (.cells cs 149 (0, 0))) : TsOwn w' B v ts := by
  obtain ⟨vs, h3, h4⟩ := h
  exact ⟨vs, hk.owns h3 h1, h4.map fun _ _ h => hk.owns h h2⟩
/-- One of them: its value in the row, wherever the world has gone; its files. -/
theorem TsOwn.at {w : World} {B : Nat} {ao : Option Addr} {n cap k : Nat} {ts : List (List FileB)} (h : TsOwn w B (.slice ao n cap) ts) (hk : k < ts.length) : ∃ g v, ao = some ⟨g, 0, none⟩ ∧ g < w.heap.size ∧ w.cell? ⟨g, k, none⟩ = some v ∧ FOwn w B v ts[k] := by
  obtain ⟨vs, h1, h2⟩ := h
  have hl := h2.len
  rcases h1.2 with ⟨_, h0⟩ | ⟨g, cap', cur, e, hb, hg, hn, hc, hs, ht⟩
  · omega
  · injection e with e1 _ _
    have hkv : k < vs.length := by omega
    refine ⟨g, vs[k], e1, (Array.getElem?_eq_some_iff.1 hg).1, ?_, FVs.at k hkv hk h2⟩
    rw [Lib.cell_of_heap hg]
    rw [Nat.mul_one] at ht
    have hks : k < cur.size := by omega
    rw [Array.getElem?_eq_getElem hks]
    have : cur.toList.take ts.length = vs := ht
    have h3 : vs[k] = cur[k] := by
      have : (cur.toList.take ts.length)[k]? = vs[k]? := by rw [this]
      rw [List.getElem?_take_of_lt hk, List.getElem?_eq_getElem hkv, Array.getElem?_toList, Array.getElem?_eq_getElem hks] at this
      exact (Option.some.inj this).symm
    rw [h3]
theorem TsOwn.cap {w : World} {B : Nat} {ao : Option Addr} {n cap : Nat} {ts : List (List FileB)} (h : TsOwn w B (.slice ao n cap) ts) : ts.length ≤ cap := by
  obtain ⟨vs, h1, _⟩ := h
  rcases h1.2 with ⟨e, h0⟩ | ⟨g, cap', cur, e, hb, hg, hn, _⟩
  · rw [h0]; exact Nat.zero_le _
  · injection e with _ _ e3; omega
/-- One more, behind an append. -/
theorem TsOwn.snoc {w w' : World} {B : Nat} {v v' x : Value} {vs : List Value} {ts : List (List FileB)} {t : List FileB} (h1 : w.ownsRow B 74 1 v ts.length vs) (h2 : FVs w B vs ts) (hx : FOwn w B x t)
    (ho : w'.ownsRow B 74 1 v' (ts.length + 1) (vs ++ [x])) (hg : w.grownBy w' v.ownBlock) : TsOwn w' B v' (ts ++ [t]) := by
  refine ⟨vs ++ [x], by rw [List.length_append]; exact ho, FVs.snoc (h2.map fun u r hu => ?_) ?_⟩
  · exact World.ownsRow.kept hu hg (rows_apart hu h1 (by decide))
  · exact World.ownsRow.kept hx hg (rows_apart hx h1 (by decide))

/-- Trees as an argument: a row of slices, each an argument of files. -/
def ZRow (w : World) (v : Value) (L : List (Value × List FileB)) : Prop :=
  (∃ ao cap, v = .slice ao L.length cap ∧ L.length ≤ cap ∧ cap ≤ maxLen ∧ (∀ i, i < L.length → ∃ b off, ao = some ⟨b, off, none⟩ ∧ b < w.heap.size ∧
    ∀ k, (hk : k < L.length) → w.cell? ⟨b, off + k, none⟩ = some L[k].1)) ∧ ∀ x ∈ L, FArg w x.1 x.2
theorem ZRow.ext {w w' : World} {v : Value} {L : List (Value × List FileB)} (h : ZRow w v L) (hb : Below w.heap.size w w') : ZRow w' v L := by
  obtain ⟨⟨ao, cap, h1, h2, h3, h4⟩, h5⟩ := h
  refine ⟨⟨ao, cap, h1, h2, h3, fun i hi => ?_⟩, fun x hx => (h5 x hx).ext hb⟩
  obtain ⟨b, off, e, hbl, hc⟩ := h4 i hi
  exact ⟨b, off, e, Nat.lt_of_lt_of_le hbl hb.size, fun k hk => by rw [hb.cell (p := ⟨b, off + k, none⟩) hbl]; exact hc k hk⟩
theorem ZRow.len {w : World} {v : Value} {L : List (Value × List FileB)} (h : ZRow w v L) : ∃ ao cap, v = .slice ao L.length cap := by
  obtain ⟨⟨ao, cap, h1, _⟩, _⟩ := h
  exact ⟨ao, cap, h1⟩
theorem ZRow.at {w : World} {ao : Option Addr} {n cap k : Nat} {L : List (Value × List FileB)} (h : ZRow w (.slice ao n cap) L) (hk : k < L.length) : ∃ b off, ao = some ⟨b, off, none⟩ ∧ b < w.heap.size ∧ w.cell? ⟨b, off + k, none⟩ = some L[k].1 ∧ FArg w L[k].1 L[k].2 := by
  obtain ⟨⟨ao', cap', e, _, _, h4⟩, h5⟩ := h
  injection e with e0 _ _
  subst e0
  obtain ⟨b, off, e, hbl, hc⟩ := h4 k hk
  exact ⟨b, off, e, hbl, hc k hk, h5 _ (List.getElem_mem hk)⟩
end Go.Proofs.YtcjjbpoaojjojaaGreatDoor

namespace Go.Proofs.YtcjjbpoaojjojaaGreatDoor
open Go Go.RowKit Go.Maps

theorem want_name {w : WantB} (h : wantE w = 0) : w.name.size ≤ 12 := by
  have := partB_len (wantE_zero h).name
  rwa [bl_length] at this
end Go.Proofs.YtcjjbpoaojjojaaGreatDoor

namespace Go.Proofs.YtcjjbpoaojjojaaGreatDoor
open Go Go.RowKit Go.Maps

/-- What lock.Split hands back. -/
def LSplitPost (E : Nat → Addr) (r : Er × List (List FileB)) (w : World) (e : Ending) (w' : World) : Prop :=
  (∃ v ev, e = .returned (.tuple #[v, ev]) ∧ Hid (IsErr E w' ev r.1) ∧ Hid (TsOwn w' w.heap.size v r.2)) ∧ Below w.heap.size w w'
theorem LSplitPost.none {E : Nat → Addr} {er : Er} {w w' : World} {ev : Value} (h : Hid (IsErr E w' ev er)) (hb : Below w.heap.size w w') : LSplitPost E (er, []) w (.returned (.tuple #[.slice none 0 0, ev])) w' :=
  ⟨⟨_, _, rfl, h, TsOwn.nil _ _⟩, hb⟩
theorem IsErr.bare_inv {E : Nat → Addr} {w : World} {u : Value} {c : Nat} (h : IsErr E w u ⟨c + 1, none⟩) : u = sentV E c ∧ c < 13 := by
  rcases h with ⟨h, _⟩ | ⟨k, hk, h, rfl⟩ | ⟨k, a, b, hk, h, _⟩
  · injection h with h _; cases h
  · injection h with h _
    obtain rfl : c = k := by omega
    exact ⟨rfl, hk⟩
  · injection h with _ h; cases h
end Go.Proofs.YtcjjbpoaojjojaaGreatDoor
