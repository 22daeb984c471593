/- strconv.Itoa at a number from 0 on, its result behind a name. -/
import Derived.Test.YtpafddeakanopaaDoorShelf
import Derived.Test.YtpafddeakanopaaDoorPressPlain
import Derived.Lib.LaidTab
namespace Go.Proofs.YtpafddeakanopaaDoor
open Go Go.RowKit

/-- The library's table of powers lies as its text lays it. -/
def PowTab (w : World) : Prop := Lib.TabIs Tryd.prog w "internal/strconv.uint64pow10" .u64 Lib.pow10Tab

theorem var?_below {w w' : World} (hb : Below w.heap.size w w') {n : String} {cs : Array Value} (h : w.var? Tryd.prog n = some cs) : w'.var? Tryd.prog n = some cs := by
  unfold World.var? at h ⊢
  cases hg : Tryd.prog.globalNamed n with
  | none => simp [hg] at h
  | some g =>
    simp only [hg, Option.bind_some] at h ⊢
    have hlt : g < w.heap.size := by
      rcases Nat.lt_or_ge g w.heap.size with h' | h'
      · exact h'
      · simp [Array.getElem?_eq_none h'] at h
    rw [hb.block g hlt]
    exact h
theorem PowTab.ext {w w' : World} (h : PowTab w) (hb : Below w.heap.size w w') : PowTab w' := var?_below hb h

theorem below_grow (w : World) (k : Nat) (os : Array Obj) : Below w.heap.size w (Sort.grow (w.drewN k) os) :=
  ⟨rfl, rfl, rfl, by show w.heap.size ≤ (w.heap ++ os).size; simp, fun i hi => by show (w.heap ++ os)[i]? = _; rw [Array.getElem?_append, if_pos hi]⟩

theorem itoa_any (n : Nat) (hn : n ≤ 9223372036854775807) (w : World) (ht : PowTab w) :
    Calls Tryd.prog 65 #[.int .i64 n] w fun e w' => ∃ t : ByteArray, e = .returned (.string t) ∧ Hid (bl t = Lib.decDigits n) ∧ t.size ≤ 21 ∧ Below w.heap.size w w' := by
  refine (Tryd.strconv_Itoa (n : Int) (by omega) (by omega) w ht).mono ?_
  rintro e w' ⟨rfl, k, os, rfl⟩
  have hs : (⟨(Lib.itoa (n : Int)).toArray⟩ : ByteArray).size ≤ 21 := by
    show ((Lib.itoa (n : Int)).toArray).size ≤ 21
    rw [List.size_toArray]
    exact Lib.itoa_length_le _ (by omega) (by omega)
  exact ⟨_, rfl, itoa_nat n, hs, below_grow w k os⟩
end Go.Proofs.YtpafddeakanopaaDoor
