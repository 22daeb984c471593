/- Rows of wants: read, handed in, of the call's own. -/
import Derived.Test.YtgchgdkpipanjaaGreatDoorJWantsUp
import Derived.Test.YtgchgdkpipanjaaGreatDoorJFiles
import Derived.Test.YtgchgdkpipanjaaGreatDoorJRanged
import Derived.IntWalk
namespace Go.Proofs.YtgchgdkpipanjaaGreatDoor
open Go Go.RowKit

abbrev encW (f : WantB) : List Value := [.string f.name, .string f.url, .string f.kind, .int .i64 f.strip, .int .i64 f.sum]
/-- Wants that are read: where there are none, the slice may have any address. -/
def WRow (w : World) (v : Value) (l : List WantB) : Prop :=
  ∃ ao cap, v = .slice ao l.length cap ∧ l.length ≤ cap ∧ cap ≤ maxLen ∧ (∀ i, i < l.length → ∃ b off, ao = some ⟨b, off, none⟩ ∧ b < w.heap.size ∧
    ∀ k, (hk : k < l.length) → (w.cell? ⟨b, off + k * 5, none⟩ = some (.string l[k].name) ∧ w.cell? ⟨b, off + k * 5 + 1, none⟩ = some (.string l[k].url) ∧ w.cell? ⟨b, off + k * 5 + 2, none⟩ = some (.string l[k].kind) ∧ w.cell? ⟨b, off + k * 5 + 3, none⟩ = some (.int .i64 l[k].strip) ∧ w.cell? ⟨b, off + k * 5 + 4, none⟩ = some (.int .i64 l[k].sum)))
theorem WRow.ext {w w' : World} {v : Value} {l : List WantB} (h : WRow w v l) (hb : Below w.heap.size w w') : WRow w' v l := by
  obtain ⟨ao, cap, h1, h2, h3, h4⟩ := h
  refine ⟨ao, cap, h1, h2, h3, fun i hi => ?_⟩
  obtain ⟨b, off, e, hbl, hc⟩ := h4 i hi
  refine ⟨b, off, e, Nat.lt_of_lt_of_le hbl hb.size, fun k hk => ?_⟩
  obtain ⟨q0, q1, q2, q3, q4⟩ := hc k hk
  exact ⟨by rw [hb.cell (p := ⟨b, off + k * 5, none⟩) hbl]; exact q0, by rw [hb.cell (p := ⟨b, off + k * 5 + 1, none⟩) hbl]; exact q1, by rw [hb.cell (p := ⟨b, off + k * 5 + 2, none⟩) hbl]; exact q2, by rw [hb.cell (p := ⟨b, off + k * 5 + 3, none⟩) hbl]; exact q3, by rw [hb.cell (p := ⟨b, off + k * 5 + 4, none⟩) hbl]; exact q4⟩
theorem WRow.len {w : World} {v : Value} {l : List WantB} (h : WRow w v l) : ∃ ao cap, v = .slice ao l.length cap := by
  obtain ⟨ao, cap, e, _⟩ := h
  exact ⟨ao, cap, e⟩
/-- A want of a row, wherever the world has gone. -/
theorem WRow.at {w : World} {ao : Option Addr} {n cap k : Nat} {l : List WantB} (h : WRow w (.slice ao n cap) l) (hk : k < l.length) : ∃ b off, ao = some ⟨b, off, none⟩ ∧ ∀ W, Below w.heap.size w W → (W.cell? ⟨b, off + k * 5, none⟩ = some (.string l[k].name) ∧ W.cell? ⟨b, off + k * 5 + 1, none⟩ = some (.string l[k].url) ∧ W.cell? ⟨b, off + k * 5 + 2, none⟩ = some (.string l[k].kind) ∧ W.cell? ⟨b, off + k * 5 + 3, none⟩ = some (.int .i64 l[k].strip) ∧ W.cell? ⟨b, off + k * 5 + 4, none⟩ = some (.int .i64 l[k].sum)) := by
  obtain ⟨ao', cap', e, _, _, h4⟩ := h
  injection e with e0 _ _
  subst e0
  obtain ⟨b, off, e, hbl, hc⟩ := h4 k hk
  obtain ⟨q0, q1, q2, q3, q4⟩ := hc k hk
  refine ⟨b, off, e, fun W hb => ⟨by rw [hb.cell (p := ⟨b, off + k * 5, none⟩) hbl]; exact q0, by rw [hb.cell (p := ⟨b, off + k * 5 + 1, none⟩) hbl]; exact q1, by rw [hb.cell (p := ⟨b, off + k * 5 + 2, none⟩) hbl]; exact q2, by rw [hb.cell (p := ⟨b, off + k * 5 + 3, none⟩) hbl]; exact q3, by rw [hb.cell (p := ⟨b, off + k * 5 + 4, none⟩) hbl]; exact q4⟩⟩
/-- Wants as an argument: a row; nil, if it has no address. -/
def WArg (w : World) (v : Value) (l : List WantB) : Prop := WRow w v l ∧ ∀ n c, v = .slice none n c → n = 0 ∧ c = 0
theorem WArg.ext {w w' : World} {v : Value} {l : List WantB} (h : WArg w v l) (hb : Below w.heap.size w w') : WArg w' v l := ⟨h.1.ext hb, h.2⟩
/-- Wants of the call's own. -/
def WOwn (w : World) (base : Nat) (v : Value) (l : List WantB) : Prop := w.ownsRow base 41 5 v l.length (l.flatMap encW)
theorem WOwn.nil (w : World) (base : Nat) : WOwn w base (.slice none 0 0) [] := World.ownsRow_nil _ _ _ _
theorem WOwn.arg {w : World} {base : Nat} {v : Value} {l : List WantB} (h : WOwn w base v l) : WArg w v l := by
  rcases Row.of_owns (enc := encW) (fun _ => rfl) h with ⟨rfl, rfl⟩ | ⟨g, off, cap, rfl, hn, hc, hlt, hcell⟩
  · exact ⟨⟨none, 0, rfl, Nat.le_refl _, Nat.zero_le _, fun i hi => absurd hi (Nat.not_lt_zero _)⟩, fun n c e => by injection e with _ e1 e2; exact ⟨e1.symm, e2.symm⟩⟩
  · refine ⟨⟨_, cap, rfl, hn, hc, fun i hi => ⟨g, off, rfl, hlt, fun k hk => ?_⟩⟩, fun n c e => by injection e with e0; cases e0⟩
    exact ⟨hcell k hk 0 (by decide), hcell k hk 1 (by decide), hcell k hk 2 (by decide), hcell k hk 3 (by decide), hcell k hk 4 (by decide)⟩
theorem WOwn.shape {w : World} {base : Nat} {v : Value} {l : List WantB} (h : WOwn w base v l) : ∃ ao cap, v = .slice ao l.length cap := by
  obtain ⟨⟨ao, cap, h1, _⟩, _⟩ := h.arg
  exact ⟨ao, cap, h1⟩
theorem WOwn.ext {w w' : World} {base : Nat} {v : Value} {l : List WantB} (h : WOwn w base v l) (hb : Below w.heap.size w w') : WOwn w' base v l := owns_below h hb
theorem WOwn.row {w : World} {base : Nat} {v : Value} {l : List WantB} (h : WOwn w base v l) : WRow w v l := h.arg.1
theorem WOwn.low {w : World} {base base' : Nat} {v : Value} {l : List WantB} (h : WOwn w base v l) (hb : base' ≤ base) : WOwn w base' v l := row_mono h hb
theorem WOwn.store {w : World} {base : Nat} {v : Value} {l : List WantB} (h : WOwn w base v l) {q o : Nat} (hq : ∀ g, v.ownBlock = some g → g ≠ q) (x : Value) : WOwn (w.setCell ⟨q, o, none⟩ x) base v l := by
  refine World.ownsRow.kept h (row := some q) ⟨rfl, rfl, rfl, (KeepsWalks.setCell w _ x).size, fun k _ hk => Below.heap_setCell _ _ _ k (fun e => hk (by rw [e]))⟩ ?_
  cases hv : v.ownBlock with
  | none => exact .inl rfl
  | some g => exact .inr (fun e => hq g hv (by cases e; rfl))
end Go.Proofs.YtgchgdkpipanjaaGreatDoor
