/- Rows of wants: read, handed in, of the call's own. Differences of locks, in plain Lean. Steps of a lock's check, and of its reading, in plain Lean. -/
import Derived.Test.YtcjjbpoaojjojaaGreatDoorJWantAll
import Derived.Test.YtcjjbpoaojjojaaGreatDoorJFilesEtc
import Derived.Test.YtcjjbpoaojjojaaGreatDoorJRanged
import Derived.IntWalk
import Derived.Test.YtcjjbpoaojjojaaGreatDoorJWantPlains
namespace Go.Proofs.YtcjjbpoaojjojaaGreatDoor
open Go Go.RowKit

abbrev encW (f : WantB) : List Value := [.string f.name, .string f.url, .string f.kind, .int .i64 f.strip, .int .i64 f.sum]
/-- Wants that are read: where there are none, the slice may have any address. -/
def WRow (w : World) (v : Value) (l : List WantB) : Prop :=
  ∃ ao cap, v = .slice ao l.length cap ∧ l.length ≤ cap ∧ cap ≤ maxLen ∧ (∀ i, i < l.length → ∃ b off, ao = some ⟨b, off, none⟩ ∧ b < w.heap.size ∧
    ∀ k, (hk : k < l.length) → (w.cell? ⟨b, off + k * 5, none⟩ = some (.string l[k].name) ∧ w.cell? ⟨b, off + k * 5 + 1, none⟩ = some (.string l[k].url) ∧ w.cell? ⟨b, off + k * 5 + 2, none⟩ = some (.string l[k].kind) ∧ w.cell? ⟨b, off + k * 5 + 3, none⟩ = some (.int .i64 l[k].strip) ∧ w.cell? ⟨b, off + k * 5 + 4, none⟩ = some (.int .i64 l[k].sum)))
theorem WRow.ext {w w' : World} {v : Value} {l : List WantB} (h : WRow w v l) (hb : Below w.heap.size w w') : WRow w' v l := by
  obtain ⟨ao, cap, h1, h2, h3, h4⟩ := h
  refine ⟨ao, cap, h1, h2, h3, fun i hi => ?_⟩
  obtain ⟨b, off, e, hbl, hc⟩ := h4 i hi
  refine ⟨b, off, e, Nat.lt_of_lt_of_le hbl hb.size, fun k hk => ?_⟩
  obtain ⟨q0, q1, q2, q3, q4⟩ := hc k hk
  exact ⟨by rw [hb.cell (p := ⟨b, off + k * 5, none⟩) hbl]; exact q0, by rw [hb.cell (p := ⟨b, off + k * 5 + 1, none⟩) hbl]; exact q1, by rw [hb.cell (p := ⟨b, off + k * 5 + 2, none⟩) hbl]; exact q2, by rw [hb.cell (p := ⟨b, off + k * 5 + 3, none⟩) hbl]; exact q3, by rw [hb.cell (p := ⟨b, off + k * 5 + 4, none⟩) hbl]; exact q4⟩
theorem WRow.len {w : World} {v : Value} {l : List WantB} (h : WRow w v l) : ∃ ao cap, v = .slice ao l.length cap := by
  obtain ⟨ao, cap, e, _⟩ := h
  exact ⟨ao, cap, e⟩
/-- A want of a row, wherever the world has gone. -/
theorem WRow.at {w : World} {ao : Option Addr} {n cap k : Nat} {l : List WantB} (h : WRow w (.slice ao n cap) l) (hk : k < l.length) : ∃ b off, ao = some ⟨b, off, none⟩ ∧ ∀ W, Below w.heap.size w W → (W.cell? ⟨b, off + k * 5, none⟩ = some (.string l[k].name) ∧ W.cell? ⟨b, off + k * 5 + 1, none⟩ = some (.string l[k].url) ∧ W.cell? ⟨b, off + k * 5 + 2, none⟩ = some (.string l[k].kind) ∧ W.cell? ⟨b, off + k * 5 + 3, none⟩ = some (.int .i64 l[k].strip) ∧ W.cell? ⟨b, off + k * 5 + 4, none⟩ = some (.int .i64 l[k].sum)) := by
  obtain ⟨ao', cap', e, _, _, h4⟩ := h
  injection e with e0 _ _
  subst e0
  obtain ⟨b, off, e, hbl, hc⟩ := h4 k hk
  obtain ⟨q0, q1, q2, q3, q4⟩ := hc k hk
  refine ⟨b, off, e, fun W hb => ⟨by rw [hb.cell (p := ⟨b, off + k * 5, none⟩) hbl]; exact q0, by rw [hb.cell (p := ⟨b, off + k * 5 + 1, none⟩) hbl]; exact q1, by rw [hb.cell (p := ⟨b, off + k * 5 + 2, none⟩) hbl]; exact q2, by rw [hb.cell (p := ⟨b, off + k * 5 + 3, none⟩) hbl]; exact q3, by rw [hb.cell (p := ⟨b, off + k * 5 + 4, none⟩) hbl]; exact q4⟩⟩
/-- Wants as an argument: a row; nil, if it has no address. -/
def WArg (w : World) (v : Value) (l : List WantB) : Prop := WRow w v l ∧ ∀ n c, v = .slice none n c → n = 0 ∧ c = 0
theorem WArg.ext {w w' : World} {v : Value} {l : List WantB} (h : WArg w v l) (hb : Below w.heap.size w w') : WArg w' v l := ⟨h.1.ext hb, h.2⟩
/-- Wants of the call's own. -/
def WOwn (w : World) (base : Nat) (v : Value) (l : List WantB) : Prop := w.ownsRow base 60 5 v l.length (l.flatMap encW)
theorem WOwn.nil (w : World) (base : Nat) : WOwn w base (.slice none 0 0) [] := World.ownsRow_nil _ _ _ _
theorem WOwn.arg {w : World} {base : Nat} {v : Value} {l : List WantB} (h : WOwn w base v l) : WArg w v l := by
  rcases Row.of_owns (enc := encW) (fun _ => rfl) h with ⟨rfl, rfl⟩ | ⟨g, off, cap, rfl, hn, hc, hlt, hcell⟩
  · exact ⟨⟨none, 0, rfl, Nat.le_refl _, Nat.zero_le _, fun i hi => absurd hi (Nat.not_lt_zero _)⟩, fun n c e => by injection e with _ e1 e2; exact ⟨e1.symm, e2.symm⟩⟩
  · refine ⟨⟨_, cap, rfl, hn, hc, fun i hi => ⟨g, off, rfl, hlt, fun k hk => ?_⟩⟩, fun n c e => by injection e with e0; cases e0⟩
    exact ⟨hcell k hk 0 (by decide), hcell k hk 1 (by decide), hcell k hk 2 (by decide), hcell k hk 3 (by decide), hcell k hk 4 (by decide)⟩
theorem WOwn.shape {w : World} {base : Nat} {v : Value} {l : List WantB} (h : WOwn w base v l) : ∃ ao cap, v = .slice ao l.length cap := by
  obtain ⟨⟨ao, cap, h1, _⟩, _⟩ := h.arg
  exact ⟨ao, cap, h1⟩
theorem WOwn.ext {w w' : World} {base : Nat} {v : Value} {l : List WantB} (h : WOwn w base v l) (hb : Below w.heap.size w w') : WOwn w' base v l := owns_below h hb
theorem WOwn.row {w : World} {base : Nat} {v : Value} {l : List WantB} (h : WOwn w base v l) : WRow w v l := h.arg.1
theorem WOwn.low {w : World} {base base' : Nat} {v : Value} {l : List WantB} (h : WOwn w base v l) (hb : base' ≤ base) : WOwn w base' v l := row_mono h hb
theorem WOwn.store {w : World} {base : Nat} {v : Value} {l : List WantB} (h : WOwn w base v l) {q o : Nat} (hq : ∀ g, v.ownBlock = some g → g ≠ q) (x : Value) : WOwn (w.setCell ⟨q, o, none⟩ x) base v l := by
  refine World.ownsRow.kept h (row := some q) ⟨rfl, rfl, rfl, (KeepsWalks.setCell w _ x).size, fun k _ hk => Below.heap_setCell _ _ _ k (fun e => hk (by rw [e]))⟩ ?_
  cases hv : v.ownBlock with
  | none => exact .inl rfl
  | some g => exact .inr (fun e => hq g hv (by cases e; rfl))
end Go.Proofs.YtcjjbpoaojjojaaGreatDoor

namespace Go.Proofs.YtcjjbpoaojjojaaGreatDoor
open Go

theorem wLt.tri {a b : WantB} (h : ¬ wLt a b) (k : ¬ wLt b a) : a.name = b.name := bl_inj (List.le_antisymm (List.not_lt.1 k) (List.not_lt.1 h))
theorem wLt.congr {a b c d : WantB} (h : a.name = c.name) (k : b.name = d.name) : wLt a b ↔ wLt c d := by unfold wLt; rw [h, k]
theorem findW_some : ∀ {l : List WantB} {n : ByteArray} {k : Nat}, findW n l = some k → ∃ hk : k < l.length, l[k].name = n
  | [], _, _, h => by cases h
  | w :: l, n, k, h => by
    unfold findW at h
    split at h
    · rename_i e; injection h with h; subst h; exact ⟨by simp, e⟩
    · cases hr : findW n l with
      | none => rw [hr] at h; cases h
      | some j =>
        rw [hr] at h
        simp only [Option.map_some, Option.some.injEq] at h
        subst h
        obtain ⟨h1, h2⟩ := findW_some hr
        exact ⟨by simp; exact h1, by simpa using h2⟩
theorem findW_none : ∀ {l : List WantB} {n : ByteArray}, findW n l = none ↔ ∀ x ∈ l, x.name ≠ n
  | [], n => by simp [findW]
  | w :: l, n => by
    unfold findW
    by_cases h : w.name = n
    · rw [if_pos h]; exact ⟨fun e => (by cases e), fun e => absurd h (e w (List.mem_cons_self ..))⟩
    · rw [if_neg h, Option.map_eq_none_iff, findW_none]
      constructor
      · intro e x hx
        rcases List.mem_cons.1 hx with rfl | hx
        · exact h
        · exact e x hx
      · exact fun e x hx => e x (List.mem_cons_of_mem _ hx)
theorem findW_isSome {l : List WantB} {n : ByteArray} : (findW n l).isSome = true ↔ ∃ x ∈ l, x.name = n := by
  cases h : findW n l with
  | none =>
    have := findW_none.1 h
    simp only [Option.isSome_none]
    exact ⟨fun e => (by cases e), fun ⟨x, hx, e⟩ => absurd e (this x hx)⟩
  | some k =>
    obtain ⟨h1, h2⟩ := findW_some h
    simp only [Option.isSome_some, true_iff]
    exact ⟨_, List.getElem_mem h1, h2⟩
theorem place_parts {l : List WantB} {w : WantB} (hl : l.Pairwise wLt) : ∃ A D, l = A ++ D ∧ l.take (placeW l w) = A ∧ l.drop (placeW l w) = D ∧ (∀ y ∈ A, wLt y w) ∧ ∀ y ∈ D, ¬ wLt y w := by
  refine ⟨l.takeWhile (fun x => decide (wLt x w)), l.dropWhile (fun x => decide (wLt x w)), List.takeWhile_append_dropWhile.symm, ?_, ?_, fun y hy => ?_, fun y hy => ?_⟩
  · unfold placeW
    conv => lhs; arg 2; rw [← List.takeWhile_append_dropWhile (p := fun x => decide (wLt x w)) (l := l)]
    rw [List.take_left]
  · unfold placeW
    conv => lhs; arg 2; rw [← List.takeWhile_append_dropWhile (p := fun x => decide (wLt x w)) (l := l)]
    rw [List.drop_left]
  · have := takeWhile_all hy
    simpa using this
  · cases hd : l.dropWhile (fun x => decide (wLt x w)) with
    | nil => rw [hd] at hy; cases hy
    | cons z t =>
      have hz : ¬ wLt z w := by
        have := List.head?_dropWhile_not (p := fun x => decide (wLt x w)) (l := l)
        rw [hd] at this
        simpa using this
      rw [hd] at hy
      rcases List.mem_cons.1 hy with rfl | hy
      · exact hz
      · have hs : (z :: t).Pairwise wLt := by rw [← hd]; exact hl.sublist (List.dropWhile_sublist _)
        exact fun e => hz (((List.pairwise_cons.1 hs).1 y hy).trans e)
/-- Set: it is there; the others stay. -/
theorem setLk_ok {l : List WantB} {w : WantB} (hl : LockOk l) (hw : wantE w = 0) (hr : (∃ x ∈ l, x.name = w.name) ∨ l.length < 20) :
    ∃ r, setLk l w = (⟨0, none⟩, r) ∧ LockOk r ∧ ∀ x, x ∈ r ↔ (x ∈ l ∧ x.name ≠ w.name) ∨ x = w := by
  obtain ⟨A, D, e, hA, hD, h1, h2⟩ := place_parts (w := w) hl.strict
  have hs := hl.strict
  rw [e] at hs
  obtain ⟨sA, sD, sX⟩ := List.pairwise_append.1 hs
  unfold setLk
  rw [if_neg (by rw [hl.er]; simp), if_neg (by rw [hw]; simp)]
  cases hf : (findW w.name l).isSome with
  | true =>
    rw [if_pos rfl, hA, ← List.drop_drop, hD]
    obtain ⟨x0, hx0, ex0⟩ := findW_isSome.1 hf
    cases D with
    | nil =>
      rw [List.append_nil] at e
      subst e
      exact absurd ex0 (h1 x0 hx0).ne
    | cons z D =>
      have hz : ¬ wLt z w := h2 z (List.mem_cons_self ..)
      have ez : z.name = w.name := by
        rw [e] at hx0
        rcases List.mem_append.1 hx0 with hx | hx
        · exact absurd ex0 (h1 x0 hx).ne
        · rcases List.mem_cons.1 hx with rfl | hx
          · exact ex0
          · have := (List.pairwise_cons.1 sD).1 x0 hx
            exact absurd ((wLt.congr rfl ex0).1 this) hz
      have hD2 : ∀ y ∈ D, wLt w y := fun y hy => (wLt.congr ez rfl).1 ((List.pairwise_cons.1 sD).1 y hy)
      refine ⟨_, rfl, ⟨?_, fun x hx => ?_, ?_⟩, fun x => ?_⟩
      · have := hl.few; rw [e] at this; simpa using this
      · rcases List.mem_append.1 hx with hx | hx
        · exact hl.each x (by rw [e]; exact List.mem_append_left _ hx)
        · rcases List.mem_cons.1 hx with rfl | hx
          · exact hw
          · exact hl.each x (by rw [e]; exact List.mem_append_right _ (List.mem_cons_of_mem _ hx))
      · refine List.pairwise_append.2 ⟨sA, List.pairwise_cons.2 ⟨hD2, (List.pairwise_cons.1 sD).2⟩, fun a ha b hb => ?_⟩
        rcases List.mem_cons.1 hb with rfl | hb
        · exact h1 a ha
        · exact sX a ha b (List.mem_cons_of_mem _ hb)
      · rw [e]
        simp only [List.drop_succ_cons, List.drop_zero, List.mem_append, List.mem_cons]
        constructor
        · rintro (hx | rfl | hx)
          · exact .inl ⟨.inl hx, (h1 x hx).ne⟩
          · exact .inr rfl
          · exact .inl ⟨.inr (.inr hx), (hD2 x hx).ne.symm⟩
        · rintro (⟨hx | rfl | hx, hne⟩ | rfl)
          · exact .inl hx
          · exact absurd ez hne
          · exact .inr (.inr hx)
          · exact .inr (.inl rfl)
  | false =>
    have hno : ∀ x ∈ l, x.name ≠ w.name := findW_none.1 (by cases h : findW w.name l with | none => rfl | some k => rw [h] at hf; cases hf)
    have h20 : l.length < 20 := by
      rcases hr with ⟨x, hx, ex⟩ | h
      · exact absurd ex (hno x hx)
      · exact h
    rw [if_neg (by simp), if_neg (by omega), hA, hD]
    have hD2 : ∀ y ∈ D, wLt w y := fun y hy => Classical.byContradiction fun hn => hno y (by rw [e]; exact List.mem_append_right _ hy) (wLt.tri (h2 y hy) hn)
    refine ⟨_, rfl, ⟨?_, fun x hx => ?_, ?_⟩, fun x => ?_⟩
    · rw [e] at h20; simp at h20 ⊢; omega
    · rcases List.mem_append.1 hx with hx | hx
      · exact hl.each x (by rw [e]; exact List.mem_append_left _ hx)
      · rcases List.mem_cons.1 hx with rfl | hx
        · exact hw
        · exact hl.each x (by rw [e]; exact List.mem_append_right _ hx)
    · refine List.pairwise_append.2 ⟨sA, List.pairwise_cons.2 ⟨hD2, sD⟩, fun a ha b hb => ?_⟩
      rcases List.mem_cons.1 hb with rfl | hb
      · exact h1 a ha
      · exact sX a ha b hb
    · rw [List.mem_append, List.mem_cons]
      constructor
      · rintro (hx | rfl | hx)
        · exact .inl ⟨by rw [e]; exact List.mem_append_left _ hx, (h1 x hx).ne⟩
        · exact .inr rfl
        · exact .inl ⟨by rw [e]; exact List.mem_append_right _ hx, (hD2 x hx).ne.symm⟩
      · rintro (⟨hx, hne⟩ | rfl)
        · rw [e] at hx
          rcases List.mem_append.1 hx with hx | hx
          · exact .inl hx
          · exact .inr (.inr hx)
        · exact .inr (.inl rfl)

end Go.Proofs.YtcjjbpoaojjojaaGreatDoor

namespace Go.Proofs.YtcjjbpoaojjojaaGreatDoor
open Go

def prevW (l : List WantB) (k : Nat) : Option WantB := if k = 0 then none else l[k - 1]?
theorem lockGo_step {l : List WantB} {k : Nat} (hk : k < l.length) : lockGo (prevW l k) k (l.drop k) = if lockE (prevW l k) l[k] ≠ 0 then some (k, lockE (prevW l k) l[k]) else lockGo (prevW l (k + 1)) (k + 1) (l.drop (k + 1)) := by
  rw [List.drop_eq_getElem_cons hk]
  have h : prevW l (k + 1) = some l[k] := by
    unfold prevW
    rw [if_neg (by omega), show k + 1 - 1 = k by omega, List.getElem?_eq_getElem hk]
  rw [h]
  rfl
theorem lockEr_at {l : List WantB} {k c : Nat} (h20 : l.length ≤ 20) (hk : k < l.length) (hF : lockGo none 0 l = lockGo (prevW l k) k (l.drop k)) (hc : lockE (prevW l k) l[k] = c + 1) : lockEr l = ⟨c + 1, some (k : Int)⟩ := by
  have : lockGo none 0 l = some (k, c + 1) := by rw [hF, lockGo_step hk, if_pos (by omega), hc]
  unfold lockEr
  rw [if_neg (by omega), this]
theorem lockGo_next {l : List WantB} {k : Nat} (hk : k < l.length) (hF : lockGo none 0 l = lockGo (prevW l k) k (l.drop k)) (hc : lockE (prevW l k) l[k] = 0) : lockGo none 0 l = lockGo (prevW l (k + 1)) (k + 1) (l.drop (k + 1)) := by
  rw [hF, lockGo_step hk, if_neg (by omega)]
theorem lockEr_end {l : List WantB} (h20 : l.length ≤ 20) (hF : lockGo none 0 l = lockGo (prevW l l.length) l.length (l.drop l.length)) : lockEr l = ⟨0, none⟩ := by
  have : lockGo none 0 l = none := by rw [hF, List.drop_length]; rfl
  unfold lockEr
  rw [if_neg (by omega), this]
theorem lockEr_many {l : List WantB} (h : 20 < l.length) : lockEr l = ⟨8, none⟩ := by unfold lockEr; rw [if_pos h]
theorem lockE_want {l : List WantB} {k c : Nat} (hk : k < l.length) (h : wantE l[k] = c + 1) : lockE (prevW l k) l[k] = c + 1 := by unfold lockE; rw [if_pos (by omega), h]
theorem lockE_first {l : List WantB} (hk : 0 < l.length) (h : wantE l[0] = 0) : lockE (prevW l 0) l[0] = 0 := by
  unfold lockE; rw [if_neg (by omega)]; rfl
theorem lockE_from {l : List WantB} {k : Nat} (hk : k < l.length) (h0 : 0 < k) (h : wantE l[k] = 0) : lockE (prevW l k) l[k] = if leqB (bl l[k].name) (bl (l[k - 1]'(by omega)).name) = true then 9 else 0 := by
  unfold lockE
  rw [if_neg (by omega)]
  unfold prevW
  rw [if_neg (by omega), List.getElem?_eq_getElem (by omega)]
end Go.Proofs.YtcjjbpoaojjojaaGreatDoor
