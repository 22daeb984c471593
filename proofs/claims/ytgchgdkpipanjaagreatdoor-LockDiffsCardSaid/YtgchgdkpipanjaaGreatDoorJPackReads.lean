/- pack.one: the contract. pack.Read: the contract. -/
import Derived.Test.YtgchgdkpipanjaaGreatDoorJPackedUp
import Derived.Test.YtgchgdkpipanjaaGreatDoorJReadPlainly
import Derived.Test.YtgchgdkpipanjaaGreatDoorJSummed
import Derived.Test.YtgchgdkpipanjaaGreatDoorJRowed
import Derived.Test.YtgchgdkpipanjaaGreatDoorJFiles
namespace Go.Proofs.YtgchgdkpipanjaaGreatDoor
open Go Go.RowKit

/-- The environment of packs that are read. -/
def REnv (E : Nat → Addr) (w : World) : Prop := KEnv E w ∧ AtoiEnv w
theorem REnv.ext {E : Nat → Addr} {w w' : World} (h : REnv E w) (hb : Below w.heap.size w w') : REnv E w' := ⟨h.1.ext hb, h.2.ext hb⟩
def PTold (o : Option (FileB × List UInt8)) (f : FileB) (r : ByteArray) (ok : Bool) : Prop := (o = some (f, bl r) ∧ ok = true) ∨ (o = none ∧ ok = false)
def POnePost (s : ByteArray) (w : World) (e : Ending) (w' : World) : Prop :=
  (∃ (f : FileB) (r : ByteArray) (ok : Bool), e = .returned (.tuple #[.agg #[.string f.path, .bool f.run, .string f.text], .string r, .bool ok]) ∧ Hid (PTold (pieceL (bl s)) f r ok)) ∧ Below w.heap.size w w'
theorem POnePost.no {s : ByteArray} {w w' : World} (h : pieceL (bl s) = none) (hb : Below w.heap.size w w') : POnePost s w (.returned (.tuple #[.agg #[.string ⟨#[]⟩, .bool false, .string ⟨#[]⟩], .string ⟨#[]⟩, .bool false])) w' :=
  ⟨⟨⟨⟨#[]⟩, false, ⟨#[]⟩⟩, _, _, rfl, .inr ⟨h, rfl⟩⟩, hb⟩

theorem piece_no1 {l a b : List UInt8} (h : Lib.cut l [10] = (a, b, false)) : pieceL l = none := by unfold pieceL; rw [h]; simp
theorem piece_no2 {l a b : List UInt8} (h : Lib.cut l [10] = (a, b, true)) (h2 : headL a = none) : pieceL l = none := by unfold pieceL; rw [h]; simp only [if_true]; rw [h2]; rfl
theorem piece_no3 {l a b p : List UInt8} {r : Bool} {n : Nat} (h : Lib.cut l [10] = (a, b, true)) (h2 : headL a = some (p, r, n)) (h3 : b[n]? ≠ some 10) : pieceL l = none := by
  unfold pieceL; rw [h]; simp only [if_true]; rw [h2]; unfold bodyL; simp only; rw [if_neg h3]
theorem piece_yes {l a b p : List UInt8} {r : Bool} {n : Nat} (h : Lib.cut l [10] = (a, b, true)) (h2 : headL a = some (p, r, n)) (h3 : b[n]? = some 10) : pieceL l = some (mkF p r (b.take n), b.drop (n + 1)) := by
  unfold pieceL; rw [h]; simp only [if_true]; rw [h2]; unfold bodyL; simp only; rw [if_pos h3]
theorem head_len {a : List UInt8} (h : (cutL 32 a).length ≠ 3) : headL a = none := by
  unfold headL headW
  split
  · rename_i p m d e; rw [e] at h; exact absurd rfl h
  · rfl
theorem head_mode {a p m d : List UInt8} (h : cutL 32 a = [p, m, d]) (h1 : m ≠ [102]) (h2 : m ≠ [120]) : headL a = none := by
  unfold headL headW; rw [h]; simp only; rw [if_neg (fun e => e.elim h1 h2)]
theorem head_num {a p m d : List UInt8} (h : cutL 32 a = [p, m, d]) (hd : numOf d 6 = none) : headL a = none := by
  unfold headL headW; rw [h]; simp only; rw [hd]; simp
theorem head_yes {a p m d : List UInt8} {n : Nat} (h : cutL 32 a = [p, m, d]) (h1 : m = [102] ∨ m = [120]) (hd : numOf d 6 = some n) : headL a = some (p, m == [120], n) := by
  unfold headL headW; rw [h]; simp only; rw [if_pos h1, hd]; rfl

theorem num_six {l : List UInt8} {n : Nat} (h : numOf l 6 = some n) : n < 1000000 := by
  obtain ⟨h1, h2⟩ := numOf_some h
  have h3 := valD_lt (Lib.decDigits n) 0 (decDigits_isD n)
  rw [valD_dec, ← h1] at h3
  have h4 : 10 ^ l.length ≤ 10 ^ 6 := Nat.pow_le_pow_right (by decide) h2
  omega
theorem bl_at (s : ByteArray) (q : Nat) (h : q < s.size) : (bl s)[q]? = some s[q] := by rw [List.getElem?_eq_getElem (by rw [bl_length]; exact h)]; rfl
/-- A file's three cells, stored. -/
theorem file_store {w : World} {g gw : Nat} {a b c : Value} (h : w.heap[g]? = some (.cells #[a, b, c] 109 (0, 0))) (x y z : Value) (hg : gw ≤ g) :
    (((w.setCell ⟨g, 0, none⟩ x).setCell ⟨g, 1, none⟩ y).setCell ⟨g, 2, none⟩ z).cell? ⟨g, 0, none⟩ = some x ∧ (((w.setCell ⟨g, 0, none⟩ x).setCell ⟨g, 1, none⟩ y).setCell ⟨g, 2, none⟩ z).cell? ⟨g, 1, none⟩ = some y ∧
      (((w.setCell ⟨g, 0, none⟩ x).setCell ⟨g, 1, none⟩ y).setCell ⟨g, 2, none⟩ z).cell? ⟨g, 2, none⟩ = some z ∧ Below gw w (((w.setCell ⟨g, 0, none⟩ x).setCell ⟨g, 1, none⟩ y).setCell ⟨g, 2, none⟩ z) := by
  have hb : (((w.setCell ⟨g, 0, none⟩ x).setCell ⟨g, 1, none⟩ y).setCell ⟨g, 2, none⟩ z).heap[g]? = some (.cells #[x, y, z] 109 (0, 0)) := by
    simp [World.setCell, Array.getElem?_modify, h]
  refine ⟨by rw [Lib.cell_of_heap hb]; rfl, by rw [Lib.cell_of_heap hb]; rfl, by rw [Lib.cell_of_heap hb]; rfl, ?_⟩
  exact (((Below.refl gw w).setCell (p := ⟨g, 0, none⟩) hg x).setCell (p := ⟨g, 1, none⟩) hg y).setCell (p := ⟨g, 2, none⟩) hg z
theorem file_ready {w : World} {g : Nat} {a b c : Value} (h : w.heap[g]? = some (.cells #[a, b, c] 109 (0, 0))) :
    w.frozen? ⟨g, 0, none⟩ = false ∧ w.frozen? ⟨g, 1, none⟩ = false ∧ w.frozen? ⟨g, 2, none⟩ = false ∧ w.cell? ⟨g, 0, none⟩ = some a ∧ w.cell? ⟨g, 1, none⟩ = some b ∧ w.cell? ⟨g, 2, none⟩ = some c :=
  ⟨Lib.frozen_of_heap h 0, Lib.frozen_of_heap h 1, Lib.frozen_of_heap h 2, by rw [Lib.cell_of_heap h]; rfl, by rw [Lib.cell_of_heap h]; rfl, by rw [Lib.cell_of_heap h]; rfl⟩

end Go.Proofs.YtgchgdkpipanjaaGreatDoor

namespace Go.Proofs.YtgchgdkpipanjaaGreatDoor
open Go Go.RowKit

def PReadPost (E : Nat → Addr) (s : ByteArray) (w : World) (e : Ending) (w' : World) : Prop :=
  (∃ v ev : Value, e = .returned (.tuple #[v, ev]) ∧ Hid (FArg w' v (readT (bl s))) ∧ Hid (IsErr E w' ev (readEr (bl s)))) ∧ Below w.heap.size w w'
theorem FArg.nil (w : World) : FArg w (.slice none 0 0) [] := ⟨⟨none, 0, rfl, Nat.le_refl _, Nat.zero_le _, fun i hi => absurd hi (Nat.not_lt_zero _)⟩, fun n c e => by injection e with _ e1 e2; exact ⟨e1.symm, e2.symm⟩⟩

end Go.Proofs.YtgchgdkpipanjaaGreatDoor
