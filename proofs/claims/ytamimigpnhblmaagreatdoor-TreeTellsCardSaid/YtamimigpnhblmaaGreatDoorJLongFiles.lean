/- chandlerylaw1.LongFiles: what it hands back, to the number. -/
import Derived.Test.YtamimigpnhblmaaGreatDoorJFiles
namespace Go.Proofs.YtamimigpnhblmaaGreatDoor
open Go Go.RowKit

def fitsF (f : FileB) : Bool := decide (f.path.size ≤ 100) && (decide (f.text.size ≤ 200) || decide (f.text.size = 4000) || decide (f.text.size = 4001))
/-- 1 if files are too many or too long, else 0. -/
def longN (l : List FileB) : Nat := if (l.length ≤ 25 ∨ l.length = 31) ∧ l.all fitsF = true then 0 else 1
theorem longN_many {l : List FileB} (h : ¬ (l.length ≤ 25 ∨ l.length = 31)) : longN l = 1 := by unfold longN; rw [if_neg (fun e => h e.1)]
theorem longN_bad {l : List FileB} {f : FileB} (hf : f ∈ l) (h : fitsF f = false) : longN l = 1 := by
  unfold longN
  rw [if_neg]
  rintro ⟨_, h2⟩
  rw [List.all_eq_true.1 h2 f hf] at h
  cases h
theorem longN_good {l : List FileB} (h : l.length ≤ 25 ∨ l.length = 31) (h2 : ∀ f ∈ l, fitsF f = true) : longN l = 0 := by
  unfold longN
  rw [if_pos ⟨h, List.all_eq_true.2 h2⟩]
theorem longN_zero {l : List FileB} (h : longN l = 0) : l.length ≤ 31 ∧ ∀ f ∈ l, f.path.size ≤ 100 ∧ f.text.size ≤ 4001 := by
  unfold longN at h
  split at h
  · rename_i h1
    refine ⟨by omega, fun f hf => ?_⟩
    have := List.all_eq_true.1 h1.2 f hf
    unfold fitsF at this
    simp only [Bool.and_eq_true, Bool.or_eq_true, decide_eq_true_eq] at this
    omega
  · cases h
theorem longN_le (l : List FileB) : longN l ≤ 1 := by unfold longN; split <;> omega

set_option maxHeartbeats 1000000 in
set_option maxRecDepth 100000 in
theorem longFiles_exactFew (v : Value) (l : List FileB) (w : World) (hv : FRow w v l) (h31 : l.length ≤ 25 ∨ l.length = 31) :
    Calls Tryz.prog 7 #[v] w (fun e w' => e = .returned (.int .i64 (longN l)) ∧ w = w') := by
  obtain ⟨ao, cap, rfl, h1, h2, H3⟩ := hv
  have HM := Lib.hid H3
  clear H3
  have H31 := Lib.hid h31
  have h31' : l.length ≤ 31 := by omega
  go_enter Tryz.func7, Tryz.ntmps7
  have h25' : l.length ≤ 25 ∨ (¬ l.length ≤ 25 ∧ ((l.length : Int) != 31) = false) := by
    rcases h31 with h | h
    · exact .inl h
    · exact .inr ⟨by omega, by rw [h]; rfl⟩
  clear h31
  rcases h25' with h25 | ⟨h25, g25⟩
  all_goals
    go_wp2_with fail
    try clear g25
    go_loop [3] (fun i => ∃ k : Nat, k ≤ l.length ∧ i = .int .i64 k ∧ Hid (∀ j, (h : j < l.length) → j < k → fitsF l[j] = true)) (fun i => l.length - (intOf i).toNat)
    case atStart => exact ⟨0, Nat.zero_le _, rfl, fun j _ h => absurd h (Nat.not_lt_zero _)⟩
    case round =>
      obtain ⟨k, hk, rfl, HA⟩ := hrel
      by_cases hlt : k < l.length
      · obtain ⟨b, off, rfl, hbl, hcell⟩ := HM.out k hlt
        obtain ⟨d0, _, d2⟩ := hcell k hlt
        have HK : Hid (fitsF l[k] = true → ∀ j, (h : j < l.length) → j < k + 1 → fitsF l[j] = true) := fun hs1 j h hj => by
          by_cases e : j = k
          · subst e; exact hs1
          · exact HA.out j h (by omega)
        have HB : Hid (fitsF l[k] = false → longN l = 1) := fun h => longN_bad (List.getElem_mem hlt) h
        clear hcell HA
        generalize l[k] = f at d0 d2 HK HB
        by_cases hp : f.path.size ≤ 100
        · by_cases ht : f.text.size ≤ 200
          · have HK2 := Lib.hid (HK.out (by unfold fitsF; simp [hp, ht]))
            clear HK
            go_wp2_with fail
            go_round
            case rel => exact ⟨k + 1, by omega, by go_num, HK2⟩
            case measure => simp [intOf]; omega
          · by_cases h40 : f.text.size = 4000
            · have HK2 := Lib.hid (HK.out (by unfold fitsF; simp [hp, h40]))
              have e : ((f.text.size : Int) != 4000) = false := by rw [h40]; rfl
              clear HK h40
              go_wp2_with fail
              go_round
              case rel => exact ⟨k + 1, by omega, by go_num, HK2⟩
              case measure => simp [intOf]; omega
            · by_cases h41 : f.text.size = 4001
              · have HK2 := Lib.hid (HK.out (by unfold fitsF; simp [hp, h41]))
                have e : ((f.text.size : Int) != 4000) = true := by rw [h41]; rfl
                have e2 : ((f.text.size : Int) != 4001) = false := by rw [h41]; rfl
                clear HK h41 h40
                go_wp2_with fail
                go_round
                case rel => exact ⟨k + 1, by omega, by go_num, HK2⟩
                case measure => simp [intOf]; omega
              · have e : ((f.text.size : Int) != 4000) = true := by rw [bne_iff_ne]; omega
                have e2 : ((f.text.size : Int) != 4001) = true := by rw [bne_iff_ne]; omega
                have HB2 := Lib.hid (HB.out (by unfold fitsF; simp [ht, h40, h41]))
                clear HK HB h41 h40
                go_wp2_with fail
                go_ret
                exact ⟨by rw [HB2.out]; rfl, rfl⟩
        · have HB2 := Lib.hid (HB.out (by unfold fitsF; simp [hp]))
          clear HK HB
          go_wp2_with fail
          go_ret
          exact ⟨by rw [HB2.out]; rfl, rfl⟩
      · obtain rfl : k = l.length := by omega
        have HT : Hid (longN l = 0) := longN_good H31.out (fun r h => by obtain ⟨j, hj, rfl⟩ := List.getElem_of_mem h; exact HA.out j hj hj)
        clear HA
        go_wp2_with fail
        go_ret
        exact ⟨by rw [HT.out]; rfl, rfl⟩

set_option maxRecDepth 100000 in
theorem longFiles_exact (v : Value) (l : List FileB) (w : World) (hv : FRow w v l) :
    Calls Tryz.prog 7 #[v] w (fun e w' => e = .returned (.int .i64 (longN l)) ∧ w = w') := by
  by_cases h : l.length ≤ 25 ∨ l.length = 31
  · exact longFiles_exactFew v l w hv h
  · obtain ⟨ao, cap, rfl, h1, h2, H3⟩ := hv
    clear H3
    have g1 : ¬ l.length ≤ 25 := by omega
    have g2 : ((l.length : Int) != 31) = true := by rw [bne_iff_ne]; omega
    have HB2 : Hid (longN l = 1) := longN_many h
    clear h
    go_enter Tryz.func7, Tryz.ntmps7
    go_wp2_with fail
    go_ret
    exact ⟨by rw [HB2.out]; rfl, rfl⟩

end Go.Proofs.YtamimigpnhblmaaGreatDoor
