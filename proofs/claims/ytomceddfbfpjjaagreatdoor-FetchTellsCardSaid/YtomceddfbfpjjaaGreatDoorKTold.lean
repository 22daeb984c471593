/- plain.Code by its contract: the number and the place of an error. The law's own small word: chandlerylaw2.coded; an error's value by its number. chandlerylaw1.coded. The law's own small word: chandlerylaw1.coded; an error's value by its number. chandlerylaw2.faulted; the reference's Bare, Fine: contracts. A fault's two cells, stored. -/
import Derived.Test.YtomceddfbfpjjaaGreatDoorKErrors
import Derived.Test.YtomceddfbfpjjaaGreatDoorKPathed
namespace Go.Proofs.YtomceddfbfpjjaaGreatDoor
open Go Go.RowKit

theorem code_nil (w : World) : Calls Tryz.prog 47 #[.nilIface] w fun e w' =>
    e = .returned (.tuple #[.int .i64 0, .int .i64 (-1)]) ∧ w = w' := by
  go_enter Tryz.func47, Tryz.ntmps47
  go_wp2
  go_ret2
  exact ⟨rfl, rfl⟩

theorem cells13 (E : Nat → Addr) (w1 : World) : ∀ n, n < 13 → (w1.alloc (Obj.cells #[sentV E 0, sentV E 1, sentV E 2, sentV E 3, sentV E 4, sentV E 5, sentV E 6, sentV E 7, sentV E 8, sentV E 9, sentV E 10, sentV E 11, sentV E 12] 45)).cell? ⟨w1.heap.size, n, none⟩ = some (sentV E n) := by
  intro n hn
  rw [World.cell?_alloc_at _ _ _ _ rfl]
  match n, hn with
  | 0, _ | 1, _ | 2, _ | 3, _ | 4, _ | 5, _ | 6, _ | 7, _ | 8, _ | 9, _ | 10, _ | 11, _ | 12, _ => rfl
  | n + 13, h => omega

set_option maxHeartbeats 400000 in
theorem code_base {E : Nat → Addr} {w : World} (hE : Env E w) (k : Nat) (hk : k < 13) : Calls Tryz.prog 47 #[sentV E k] w fun e w' =>
    e = .returned (.tuple #[.int .i64 ((k : Int) + 1), .int .i64 (-1)]) ∧ Below w.heap.size w w' := by
  go_enter Tryz.func47, Tryz.ntmps47
  go_wp2_with fail
  refine (as_miss_below (hE.ext ((Below.refl _ _).alloc (Nat.le_refl _) _)) _ _ (.pointer none) (by go_simp)).mono ?_
  rintro ev w1 ⟨rfl, hb⟩
  have hb1 : Below w.heap.size w w1 := ((Below.refl _ _).alloc (Nat.le_refl _) _).trans (hb.mono (by simp))
  have hE1 := hE.ext hb1
  have hz : w.heap.size < w1.heap.size := by have := hb.size; simp at this; omega
  have e0 := hE1.eText
  have e1 := hE1.eBound
  have e2 := hE1.eShape
  have e3 := hE1.eKind
  have e4 := hE1.eName
  have e5 := hE1.eNone
  have e6 := hE1.eExist
  have e7 := hE1.eFull
  have e8 := hE1.eOrder
  have e9 := hE1.eOut
  have e10 := hE1.eClash
  have e11 := hE1.eSum
  have e12 := hE1.eOff
  clear hb
  go_wp2_with fail
  have hc := cells13 E w1
  have hbb : Below w.heap.size w (w1.alloc (Obj.cells #[sentV E 0, sentV E 1, sentV E 2, sentV E 3, sentV E 4, sentV E 5, sentV E 6, sentV E 7, sentV E 8, sentV E 9, sentV E 10, sentV E 11, sentV E 12] 45)) := hb1.alloc (by omega) _
  have hEE := hE1.ext ((Below.refl _ w1).alloc (Nat.le_refl _) (Obj.cells #[sentV E 0, sentV E 1, sentV E 2, sentV E 3, sentV E 4, sentV E 5, sentV E 6, sentV E 7, sentV E 8, sentV E 9, sentV E 10, sentV E 11, sentV E 12] 45))
  clear e0 e1 e2 e3 e4 e5 e6 e7 e8 e9 e10 e11 e12 hE hE1 hb1
  generalize w1.alloc (Obj.cells #[sentV E 0, sentV E 1, sentV E 2, sentV E 3, sentV E 4, sentV E 5, sentV E 6, sentV E 7, sentV E 8, sentV E 9, sentV E 10, sentV E 11, sentV E 12] 45) = W at hc hbb hEE ⊢
  generalize w1.heap.size = B at hc ⊢
  go_loop [3, 31] (fun z i => ∃ n : Nat, n ≤ k ∧ i = .int .i64 n ∧ z = .int .i64 (-1)) (fun _ i => 13 - (intOf i).toNat)
  case atStart => exact ⟨0, Nat.zero_le _, rfl, rfl⟩
  case round =>
    obtain ⟨n, hn, rfl, rfl⟩ := hrel
    have hn13 : n < 13 := by omega
    have hcn := hc n hn13
    have his := is_any hEE (IsErr.base E W k hk) (by simp) n hn13
    have HI := Lib.hid his
    have HC := Lib.hid hc
    clear his hc
    by_cases hnk : n = k
    · subst hnk
      go_wp2_with fail
      refine HI.out.mono ?_
      rintro e w' ⟨rfl, rfl⟩
      go_wp2_with fail
      go_ret2
      exact ⟨by simp, hbb⟩
    · go_wp2_with fail
      refine HI.out.mono ?_
      rintro e w' ⟨rfl, rfl⟩
      have hd : decide (k + 1 = n + 1) = false := by simp; omega
      go_wp2_with fail
      go_round
      case rel => exact ⟨n + 1, by omega, by go_num, rfl⟩
      case measure => simp [intOf]; omega
set_option maxHeartbeats 400000 in
theorem code_fault {E : Nat → Addr} {w : World} (hE : Env E w) (k : Nat) (hk : k < 13) (a : Int) (b : Nat) (h3 : w.cell? ⟨b, 0, none⟩ = some (.int .i64 a)) (h4 : w.cell? ⟨b, 1, none⟩ = some (sentV E k)) :
    Calls Tryz.prog 47 #[.iface 134 (.pointer (some ⟨b, 0, none⟩))] w fun e w' =>
    e = .returned (.tuple #[.int .i64 ((k : Int) + 1), .int .i64 a]) ∧ Below w.heap.size w w' := by
  go_enter Tryz.func47, Tryz.ntmps47
  go_wp2_with fail
  refine (as_hit_grown (hE.ext ((Below.refl _ _).alloc (Nat.le_refl _) _)) _ _ (.pointer none) (by go_simp) (by go_simp)).mono ?_
  rintro ev w1 ⟨rfl, hp, hg⟩
  have hb1 : Below w.heap.size w w1 := ((Below.refl _ _).alloc (Nat.le_refl _) _).grown hg (by simp) (by rintro _ ⟨⟩; exact Nat.le_refl _)
  have hE1 := hE.ext hb1
  have hz : w.heap.size < w1.heap.size := by have := hg.size; simp at this; omega
  have hf0 : w1.cell? ⟨b, 0, none⟩ = some (.int .i64 a) := by rw [hb1.cell (p := ⟨b, 0, none⟩) (lt_of_cell h3)]; exact h3
  have hf1 : w1.cell? ⟨b, 1, none⟩ = some (sentV E k) := by rw [hb1.cell (p := ⟨b, 1, none⟩) (lt_of_cell h4)]; exact h4
  have hbl : b < w1.heap.size := lt_of_cell hf0
  have e0 := hE1.eText
  have e1 := hE1.eBound
  have e2 := hE1.eShape
  have e3 := hE1.eKind
  have e4 := hE1.eName
  have e5 := hE1.eNone
  have e6 := hE1.eExist
  have e7 := hE1.eFull
  have e8 := hE1.eOrder
  have e9 := hE1.eOut
  have e10 := hE1.eClash
  have e11 := hE1.eSum
  have e12 := hE1.eOff
  clear hg h3 h4
  go_wp2_with fail
  have hc := cells13 E w1
  have hg0 : (w1.alloc (Obj.cells #[sentV E 0, sentV E 1, sentV E 2, sentV E 3, sentV E 4, sentV E 5, sentV E 6, sentV E 7, sentV E 8, sentV E 9, sentV E 10, sentV E 11, sentV E 12] 45)).cell? ⟨b, 0, none⟩ = some (.int .i64 a) := by rw [World.cell?_alloc_lt _ _ ⟨b, 0, none⟩ hbl]; exact hf0
  have hg1 : (w1.alloc (Obj.cells #[sentV E 0, sentV E 1, sentV E 2, sentV E 3, sentV E 4, sentV E 5, sentV E 6, sentV E 7, sentV E 8, sentV E 9, sentV E 10, sentV E 11, sentV E 12] 45)).cell? ⟨b, 1, none⟩ = some (sentV E k) := by rw [World.cell?_alloc_lt _ _ ⟨b, 1, none⟩ hbl]; exact hf1
  have hbb : Below w.heap.size w (w1.alloc (Obj.cells #[sentV E 0, sentV E 1, sentV E 2, sentV E 3, sentV E 4, sentV E 5, sentV E 6, sentV E 7, sentV E 8, sentV E 9, sentV E 10, sentV E 11, sentV E 12] 45)) := hb1.alloc (by omega) _
  have hEE := hE1.ext ((Below.refl _ w1).alloc (Nat.le_refl _) (Obj.cells #[sentV E 0, sentV E 1, sentV E 2, sentV E 3, sentV E 4, sentV E 5, sentV E 6, sentV E 7, sentV E 8, sentV E 9, sentV E 10, sentV E 11, sentV E 12] 45))
  clear e0 e1 e2 e3 e4 e5 e6 e7 e8 e9 e10 e11 e12 hE hE1 hb1 hf0 hf1 hp
  generalize w1.alloc (Obj.cells #[sentV E 0, sentV E 1, sentV E 2, sentV E 3, sentV E 4, sentV E 5, sentV E 6, sentV E 7, sentV E 8, sentV E 9, sentV E 10, sentV E 11, sentV E 12] 45) = W at hc hbb hEE hg0 hg1 ⊢
  generalize w1.heap.size = B at hc ⊢
  go_loop [3, 31] (fun z i => ∃ n : Nat, n ≤ k ∧ i = .int .i64 n ∧ z = .int .i64 a) (fun _ i => 13 - (intOf i).toNat)
  case atStart => exact ⟨0, Nat.zero_le _, rfl, rfl⟩
  case round =>
    obtain ⟨n, hn, rfl, rfl⟩ := hrel
    have hn13 : n < 13 := by omega
    have hcn := hc n hn13
    have his := is_any hEE (IsErr.fault E W k hk a b hg0 hg1) (by simp) n hn13
    have HI := Lib.hid his
    have HC := Lib.hid hc
    clear his hc
    by_cases hnk : n = k
    · subst hnk
      go_wp2_with fail
      refine HI.out.mono ?_
      rintro e w' ⟨rfl, rfl⟩
      go_wp2_with fail
      go_ret2
      exact ⟨by simp, hbb⟩
    · go_wp2_with fail
      refine HI.out.mono ?_
      rintro e w' ⟨rfl, rfl⟩
      have hd : decide (k + 1 = n + 1) = false := by simp; omega
      go_wp2_with fail
      go_round
      case rel => exact ⟨n + 1, by omega, by go_num, rfl⟩
      case measure => simp [intOf]; omega
/-- plain.Code of whatever error reads as er. -/
theorem code_any {E : Nat → Addr} {w : World} {v : Value} {er : Er} (hE : Env E w) (hv : IsErr E w v er) : Calls Tryz.prog 47 #[v] w fun e w' =>
    e = .returned (.tuple #[.int .i64 er.code, .int .i64 (er.at?.getD (-1))]) ∧ Below w.heap.size w w' := by
  rcases hv with ⟨rfl, rfl⟩ | ⟨k, hk, rfl, rfl⟩ | ⟨k, a, b, hk, rfl, rfl, h3, h4⟩
  · exact (code_nil w).mono fun _ _ ⟨h1, h2⟩ => ⟨h1, h2 ▸ Below.refl _ _⟩
  · exact code_base hE k hk
  · exact code_fault hE k hk a b h3 h4
end Go.Proofs.YtomceddfbfpjjaaGreatDoor

namespace Go.Proofs.YtomceddfbfpjjaaGreatDoor
open Go Go.RowKit

/-- coded: an error's number, without a place. -/
def codedB2 (er : Er) (c : Int) : Bool := (er.code : Int) == c && er.at?.getD (-1) == -1

theorem codedTwo_any {E : Nat → Addr} {w : World} {v : Value} {er : Er} (hE : Env E w) (hv : IsErr E w v er) (c : Int) : Calls Tryz.prog 30 #[v, .int .i64 c] w fun e w' =>
    e = .returned (.bool (codedB2 er c)) ∧ Below w.heap.size w w' := by
  have hc := Lib.hid (code_any hE hv)
  have hfin : codedB2 er c = ((er.code : Int) == c && er.at?.getD (-1) == -1) := rfl
  have HF := Lib.hid hfin; clear hfin hE hv
  generalize hk : (er.code : Int) = k at hc HF
  generalize ha : er.at?.getD (-1) = a at hc HF
  clear hk ha
  generalize codedB2 er c = r at HF ⊢
  cases h1 : (k == c)
  · go_enter Tryz.func30, Tryz.ntmps30
    go_wp2_with fail
    refine hc.out.mono ?_
    rintro e w' ⟨rfl, hb⟩
    go_wp2_with fail
    go_ret
    exact ⟨by rw [HF.out, h1]; rfl, hb⟩
  · go_enter Tryz.func30, Tryz.ntmps30
    go_wp2_with fail
    refine hc.out.mono ?_
    rintro e w' ⟨rfl, hb⟩
    go_wp2_with fail
    go_ret
    exact ⟨by rw [HF.out, h1]; simp, hb⟩

theorem isErr_errV2 {E : Nat → Addr} {w : World} {c : Nat} (h : c ≤ 13) : IsErr E w (errV E c) ⟨c, none⟩ := by
  cases c with
  | zero => exact IsErr.nil E w
  | succ k => exact IsErr.base E w k (by omega)
theorem errCoded2 {E : Nat → Addr} {w : World} {c : Nat} (hE : Env E w) (h : c ≤ 13) : Calls Tryz.prog 30 #[errV E c, .int .i64 c] w fun e w' => e = .returned (.bool true) ∧ Below w.heap.size w w' := by
  refine (codedTwo_any hE (isErr_errV2 h) c).mono ?_
  rintro e w' ⟨rfl, hb⟩
  refine ⟨?_, hb⟩
  have : codedB2 ⟨c, none⟩ (c : Int) = true := by unfold codedB2; simp
  rw [this]
end Go.Proofs.YtomceddfbfpjjaaGreatDoor

namespace Go.Proofs.YtomceddfbfpjjaaGreatDoor
open Go Go.RowKit

end Go.Proofs.YtomceddfbfpjjaaGreatDoor

namespace Go.Proofs.YtomceddfbfpjjaaGreatDoor
open Go Go.RowKit

end Go.Proofs.YtomceddfbfpjjaaGreatDoor

namespace Go.Proofs.YtomceddfbfpjjaaGreatDoor
open Go Go.RowKit

/-- The reference's fault, as a value. -/
def erA (er : Er) : Array Value := #[.int .i64 er.code, .int .i64 (er.at?.getD (-1))]

set_option maxRecDepth 100000 in
theorem refBare_any (c : Int) (w : World) : Calls Tryz.prog 46 #[.int .i64 c] w fun e w' => e = .returned (.agg #[.int .i64 c, .int .i64 (-1)]) ∧ Below w.heap.size w w' := by
  go_enter Tryz.func46, Tryz.ntmps46
  go_wp2_with fail
  exact bodyPost_ret (v := .agg #[.int .i64 c, .int .i64 (-1)]) (by simp [results, Tryz.results46, go_sem]) rfl ⟨rfl, (Below.refl _ _).alloc (Nat.le_refl _) _⟩
set_option maxRecDepth 100000 in
theorem refFine_any (w : World) : Calls Tryz.prog 98 #[] w fun e w' => e = .returned (.agg #[.int .i64 0, .int .i64 (-1)]) ∧ Below w.heap.size w w' := by
  go_enter Tryz.func98, Tryz.ntmps98
  go_wp2_with fail
  exact bodyPost_ret (v := .agg #[.int .i64 0, .int .i64 (-1)]) (by simp [results, Tryz.results98, go_sem]) rfl ⟨rfl, (Below.refl _ _).alloc (Nat.le_refl _) _⟩

end Go.Proofs.YtomceddfbfpjjaaGreatDoor

namespace Go.Proofs.YtomceddfbfpjjaaGreatDoor
open Go Go.RowKit

theorem fault_store {w : World} {g gw : Nat} {a b : Value} (h : w.heap[g]? = some (.cells #[a, b] 50 (0, 0))) (x y : Value) (hg : gw ≤ g) :
    ((w.setCell ⟨g, 0, none⟩ x).setCell ⟨g, 1, none⟩ y).cell? ⟨g, 0, none⟩ = some x ∧ ((w.setCell ⟨g, 0, none⟩ x).setCell ⟨g, 1, none⟩ y).cell? ⟨g, 1, none⟩ = some y ∧ Below gw w ((w.setCell ⟨g, 0, none⟩ x).setCell ⟨g, 1, none⟩ y) := by
  have hb : ((w.setCell ⟨g, 0, none⟩ x).setCell ⟨g, 1, none⟩ y).heap[g]? = some (.cells #[x, y] 50 (0, 0)) := by
    simp [World.setCell, Array.getElem?_modify, h]
  refine ⟨by rw [Lib.cell_of_heap hb]; rfl, by rw [Lib.cell_of_heap hb]; rfl, ?_⟩
  exact ((Below.refl gw w).setCell (p := ⟨g, 0, none⟩) hg x).setCell (p := ⟨g, 1, none⟩) hg y
end Go.Proofs.YtomceddfbfpjjaaGreatDoor
