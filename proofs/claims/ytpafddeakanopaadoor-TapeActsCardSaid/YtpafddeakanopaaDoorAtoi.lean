/- strconv.Atoi at any text; a number read back (for seats without package sum: the first half of XSumNum). -/
import Derived.Test.YtpafddeakanopaaDoorItoa
import Derived.Test.YtpafddeakanopaaDoorNumPlain
import Derived.Test.YtpafddeakanopaaDoorShelf
import Derived.Lib.Hide
import Derived.IntWalk
namespace Go.Proofs.YtpafddeakanopaaDoor
open Go Go.RowKit

/-- The library's two variables of errors that strconv.Atoi reads hold errors. -/
def ErrIn (w : World) (g : Nat) : Prop := ∃ ev, w.cell? ⟨g, 0, none⟩ = some ev ∧ (ev = .nilIface ∨ ∃ te pe, ev = .iface te pe)
def AtoiEnv (w : World) : Prop := ErrIn w 15 ∧ ErrIn w 16
theorem ErrIn.ext {w w' : World} {g : Nat} (h : ErrIn w g) (hb : Below w.heap.size w w') : ErrIn w' g := by
  obtain ⟨ev, h1, h2⟩ := h
  exact ⟨ev, (hb.cell (show (⟨g, 0, none⟩ : Addr).block < w.heap.size from Lib.lt_of_cell h1)).trans h1, h2⟩
theorem AtoiEnv.ext {w w' : World} (h : AtoiEnv w) (hb : Below w.heap.size w w') : AtoiEnv w' := ⟨h.1.ext hb, h.2.ext hb⟩

/-- strconv.Atoi at any text. -/
theorem atoi_any (s : ByteArray) (w : World) (hs : s.size ≤ 281474976710656) (ha : AtoiEnv w) :
    Calls Tryd.prog 66 #[.string s] w fun e w' => (∃ v : Int, e = .returned (.tuple #[.int .i64 v, .nilIface]) ∧ Hid (Lib.atoiAll (bl s) = .ok v) ∧ Below w.heap.size w w') ∨
      (∃ (v : Int) (te : TypeId) (a : Value), e = .returned (.tuple #[.int .i64 v, .iface te a]) ∧ Hid (∀ n, Lib.atoiAll (bl s) ≠ .ok n) ∧ Below w.heap.size w w') := by
  obtain ⟨⟨e1, h1, h2⟩, ⟨e3, h3, h4⟩⟩ := ha
  rcases h : Lib.atoiAll s.data.toList with v | _ | _
  · refine (Any.strconv_Atoi_ok Tryd.laysC172 s (by omega) v h w).mono ?_
    rintro e w' ⟨rfl, hw⟩
    refine .inl ⟨v, rfl, h, ?_⟩
    rcases hw with rfl | ⟨t, rfl⟩
    · exact Below.refl _ _
    · exact Lib.bytesWorld_below _ _ _
  · refine (Any.strconv_Atoi_syntax Tryd.laysC172 s hs h e1 w h1 h2).mono ?_
    rintro e w' ⟨N, rfl, _, _, hb⟩
    exact .inr ⟨_, _, _, rfl, fun n hn => (by rw [show bl s = s.data.toList from rfl, h] at hn; cases hn), hb⟩
  · refine (Any.strconv_Atoi_range Tryd.laysC172 s hs h e3 w h3 h4).mono ?_
    rintro e w' ⟨N, rfl, _, _, hb⟩
    exact .inr ⟨_, _, _, rfl, fun n hn => (by rw [show bl s = s.data.toList from rfl, h] at hn; cases hn), hb⟩

theorem str_same (s t : ByteArray) (h : t = s) : (t.toList == s.toList) = true := by rw [h]; exact beq_self_eq_true _
theorem str_other (s t : ByteArray) (h : ¬ t = s) : (t.toList == s.toList) = false :=
  beq_eq_false_iff_ne.2 fun e => h (bl_inj (by rwa [Lib.toList_data, Lib.toList_data] at e))

theorem num_no {l : List UInt8} {most : Nat} (hm : most ≤ 18) (h : ∀ m : Nat, l = Lib.decDigits m → l.length ≤ most → Lib.atoiAll l = .ok (m : Int) → False) : numOf l most = none := by
  cases hn : numOf l most with
  | none => rfl
  | some m =>
    obtain ⟨h1, h2⟩ := numOf_some hn
    exact (h m h1 h2 (by rw [h1]; exact atoi_dec m (by rw [← h1]; omega))).elim

end Go.Proofs.YtpafddeakanopaaDoor
