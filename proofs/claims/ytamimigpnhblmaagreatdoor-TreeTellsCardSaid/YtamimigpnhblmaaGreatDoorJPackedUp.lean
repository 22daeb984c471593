/- Packs, in plain Lean. -/
import Derived.Test.YtamimigpnhblmaaGreatDoorJTreed
import Derived.Test.YtamimigpnhblmaaGreatDoorJPlainly
namespace Go.Proofs.YtamimigpnhblmaaGreatDoor
open Go

def modeB (r : Bool) : UInt8 := if r then 120 else 102
/-- A file, as a pack has it. -/
def packOne (f : FileB) : List UInt8 := bl f.path ++ ([32, modeB f.run, 32] ++ (Lib.decDigits f.text.size ++ (10 :: (bl f.text ++ [10]))))
/-- Files, as a pack has them. -/
def packL (l : List FileB) : List UInt8 := l.flatMap packOne
theorem packOne_len (f : FileB) (hp : f.path.size ≤ 30000) (ht : f.text.size ≤ 100000) : (packOne f).length ≤ 132000 := by
  have h1 := decDigits_len f.text.size (by omega)
  unfold packOne
  simp only [List.length_append, List.length_cons, List.length_nil, bl_length]
  omega
theorem packL_snoc (l : List FileB) (f : FileB) : packL (l ++ [f]) = packL l ++ packOne f := by simp [packL]
theorem packL_take {l : List FileB} {k : Nat} (h : k < l.length) : packL (l.take (k + 1)) = packL (l.take k) ++ packOne l[k] := by
  rw [List.take_add_one, List.getElem?_eq_getElem h]; exact packL_snoc _ _
theorem packL_cons (f : FileB) (l : List FileB) : packL (f :: l) = packOne f ++ packL l := by simp [packL]
theorem packL_len : ∀ (l : List FileB), (∀ f ∈ l, f.path.size ≤ 30000 ∧ f.text.size ≤ 100000) → (packL l).length ≤ 132000 * l.length
  | [], _ => Nat.zero_le _
  | f :: l, h => by
    have h1 := packOne_len f (h f (List.mem_cons_self ..)).1 (h f (List.mem_cons_self ..)).2
    have h2 := packL_len l (fun g hg => h g (List.mem_cons_of_mem _ hg))
    rw [packL_cons, List.length_append, List.length_cons]
    omega
end Go.Proofs.YtamimigpnhblmaaGreatDoor
