/- chandlerylaw2.faulted; the reference's Bare, Fine: contracts. -/
import Derived.Test.YtpafddeakanopaaGreatDoorCode
import Derived.Test.YtpafddeakanopaaGreatDoorPath
namespace Go.Proofs.YtpafddeakanopaaGreatDoor
open Go Go.RowKit

/-- The reference's fault, as a value. -/
def erA (er : Er) : Array Value := #[.int .i64 er.code, .int .i64 (er.at?.getD (-1))]

set_option maxRecDepth 100000 in
theorem refBare_any (c : Int) (w : World) : Calls Tryz.prog 15 #[.int .i64 c] w fun e w' => e = .returned (.agg #[.int .i64 c, .int .i64 (-1)]) ∧ Below w.heap.size w w' := by
  go_enter Tryz.func15, Tryz.ntmps15
  go_wp2_with fail
  exact bodyPost_ret (v := .agg #[.int .i64 c, .int .i64 (-1)]) (by simp [results, Tryz.results15, go_sem]) rfl ⟨rfl, (Below.refl _ _).alloc (Nat.le_refl _) _⟩
set_option maxRecDepth 100000 in
theorem refFine_any (w : World) : Calls Tryz.prog 17 #[] w fun e w' => e = .returned (.agg #[.int .i64 0, .int .i64 (-1)]) ∧ Below w.heap.size w w' := by
  go_enter Tryz.func17, Tryz.ntmps17
  go_wp2_with fail
  exact bodyPost_ret (v := .agg #[.int .i64 0, .int .i64 (-1)]) (by simp [results, Tryz.results17, go_sem]) rfl ⟨rfl, (Below.refl _ _).alloc (Nat.le_refl _) _⟩

set_option maxHeartbeats 1000000 in
set_option maxRecDepth 100000 in
theorem faulted_any {E : Nat → Addr} {w : World} {v : Value} {er : Er} (hE : Env E w) (hv : IsErr E w v er) : Calls Tryz.prog 6 #[v, .agg (erA er)] w fun e w' => e = .returned (.bool true) ∧ Below w.heap.size w w' := by
  unfold erA
  have hal : Below w.heap.size w (w.alloc (.cells #[.int .i64 er.code, .int .i64 (er.at?.getD (-1))] 31)) := (Below.refl _ _).alloc (Nat.le_refl _) _
  have hc := Lib.hid (code_any (hE.ext hal) (hv.ext hal))
  clear hE hv
  generalize (er.code : Int) = k at hc hal ⊢
  generalize er.at?.getD (-1) = a at hc hal ⊢
  have h0 : (w.alloc (.cells #[.int .i64 k, .int .i64 a] 31)).cell? ⟨w.heap.size, 0, none⟩ = some (.int .i64 k) := by rw [World.cell?_alloc_at _ _ _ _ rfl]; rfl
  have h1 : (w.alloc (.cells #[.int .i64 k, .int .i64 a] 31)).cell? ⟨w.heap.size, 1, none⟩ = some (.int .i64 a) := by rw [World.cell?_alloc_at _ _ _ _ rfl]; rfl
  have hkk : (k == k) = true := beq_self_eq_true _
  have haa : (a == a) = true := beq_self_eq_true _
  have hsz : w.heap.size < (w.alloc (.cells #[.int .i64 k, .int .i64 a] 31)).heap.size := by simp
  have H0 := Lib.hid h0
  have H1 := Lib.hid h1
  have HS := Lib.hid hsz
  have HA := Lib.hid hal
  clear h0 h1 hsz hal
  go_enter Tryz.func6, Tryz.ntmps6
  go_wp2_with fail
  refine hc.out.mono ?_
  rintro e w' ⟨rfl, hb⟩
  have c0 : w'.cell? ⟨w.heap.size, 0, none⟩ = some (.int .i64 k) := by rw [hb.cell (p := ⟨w.heap.size, 0, none⟩) HS.out]; exact H0.out
  have c1 : w'.cell? ⟨w.heap.size, 1, none⟩ = some (.int .i64 a) := by rw [hb.cell (p := ⟨w.heap.size, 1, none⟩) HS.out]; exact H1.out
  have hfin : Below w.heap.size w w' := HA.out.trans (hb.mono (Nat.le_of_lt HS.out))
  cases hk : (k == 0)
  · go_wp2_with fail
    go_ret
    exact ⟨rfl, hfin⟩
  · go_wp2_with fail
    go_ret
    exact ⟨rfl, hfin⟩
end Go.Proofs.YtpafddeakanopaaGreatDoor
