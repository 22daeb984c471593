/- chandlerylaw1.LongFiles: what it hands back, to the number. press.Press by its contract. -/
import Derived.Test.YtamimigpnhblmaaGreatDoorJFiles
import Derived.Test.YtamimigpnhblmaaGreatDoorJTexts
import Derived.Test.YtamimigpnhblmaaGreatDoorJRowed
import Derived.Deep.RegionWith
import Derived.IntWalk
namespace Go.Proofs.YtamimigpnhblmaaGreatDoor
open Go Go.RowKit

def fitsF (f : FileB) : Bool := decide (f.path.size ≤ 100) && (decide (f.text.size ≤ 200) || decide (f.text.size = 4000) || decide (f.text.size = 4001))
/-- 1 if files are too many or too long, else 0. -/
def longN (l : List FileB) : Nat := if (l.length ≤ 25 ∨ l.length = 31) ∧ l.all fitsF = true then 0 else 1
theorem longN_many {l : List FileB} (h : ¬ (l.length ≤ 25 ∨ l.length = 31)) : longN l = 1 := by unfold longN; rw [if_neg (fun e => h e.1)]
theorem longN_bad {l : List FileB} {f : FileB} (hf : f ∈ l) (h : fitsF f = false) : longN l = 1 := by
  unfold longN
  rw [if_neg]
  rintro ⟨_, h2⟩
  rw [List.all_eq_true.1 h2 f hf] at h
  cases h
theorem longN_good {l : List FileB} (h : l.length ≤ 25 ∨ l.length = 31) (h2 : ∀ f ∈ l, fitsF f = true) : longN l = 0 := by
  unfold longN
  rw [if_pos ⟨h, List.all_eq_true.2 h2⟩]
theorem longN_zero {l : List FileB} (h : longN l = 0) : l.length ≤ 31 ∧ ∀ f ∈ l, f.path.size ≤ 100 ∧ f.text.size ≤ 4001 := by
  unfold longN at h
  split at h
  · rename_i h1
    refine ⟨by omega, fun f hf => ?_⟩
    have := List.all_eq_true.1 h1.2 f hf
    unfold fitsF at this
    simp only [Bool.and_eq_true, Bool.or_eq_true, decide_eq_true_eq] at this
    omega
  · cases h
theorem longN_le (l : List FileB) : longN l ≤ 1 := by unfold longN; split <;> omega

set_option maxHeartbeats 1000000 in
set_option maxRecDepth 100000 in
theorem longFiles_exactFew (v : Value) (l : List FileB) (w : World) (hv : FRow w v l) (h31 : l.length ≤ 25 ∨ l.length = 31) :
    Calls Tryz.prog 7 #[v] w (fun e w' => e = .returned (.int .i64 (longN l)) ∧ w = w') := by
  obtain ⟨ao, cap, rfl, h1, h2, H3⟩ := hv
  have HM := Lib.hid H3
  clear H3
  have H31 := Lib.hid h31
  have h31' : l.length ≤ 31 := by omega
  go_enter Tryz.func7, Tryz.ntmps7
  have h25' : l.length ≤ 25 ∨ (¬ l.length ≤ 25 ∧ ((l.length : Int) != 31) = false) := by
    rcases h31 with h | h
    · exact .inl h
    · exact .inr ⟨by omega, by rw [h]; rfl⟩
  clear h31
  rcases h25' with h25 | ⟨h25, g25⟩
  all_goals
    go_wp2_with fail
    try clear g25
    go_loop [3] (fun i => ∃ k : Nat, k ≤ l.length ∧ i = .int .i64 k ∧ Hid (∀ j, (h : j < l.length) → j < k → fitsF l[j] = true)) (fun i => l.length - (intOf i).toNat)
    case atStart => exact ⟨0, Nat.zero_le _, rfl, fun j _ h => absurd h (Nat.not_lt_zero _)⟩
    case round =>
      obtain ⟨k, hk, rfl, HA⟩ := hrel
      by_cases hlt : k < l.length
      · obtain ⟨b, off, rfl, hbl, hcell⟩ := HM.out k hlt
        obtain ⟨d0, _, d2⟩ := hcell k hlt
        have HK : Hid (fitsF l[k] = true → ∀ j, (h : j < l.length) → j < k + 1 → fitsF l[j] = true) := fun hs1 j h hj => by
          by_cases e : j = k
          · subst e; exact hs1
          · exact HA.out j h (by omega)
        have HB : Hid (fitsF l[k] = false → longN l = 1) := fun h => longN_bad (List.getElem_mem hlt) h
        clear hcell HA
        generalize l[k] = f at d0 d2 HK HB
        by_cases hp : f.path.size ≤ 100
        · by_cases ht : f.text.size ≤ 200
          · have HK2 := Lib.hid (HK.out (by unfold fitsF; simp [hp, ht]))
            clear HK
            go_wp2_with fail
            go_round
            case rel => exact ⟨k + 1, by omega, by go_num, HK2⟩
            case measure => simp [intOf]; omega
          · by_cases h40 : f.text.size = 4000
            · have HK2 := Lib.hid (HK.out (by unfold fitsF; simp [hp, h40]))
              have e : ((f.text.size : Int) != 4000) = false := by rw [h40]; rfl
              clear HK h40
              go_wp2_with fail
              go_round
              case rel => exact ⟨k + 1, by omega, by go_num, HK2⟩
              case measure => simp [intOf]; omega
            · by_cases h41 : f.text.size = 4001
              · have HK2 := Lib.hid (HK.out (by unfold fitsF; simp [hp, h41]))
                have e : ((f.text.size : Int) != 4000) = true := by rw [h41]; rfl
                have e2 : ((f.text.size : Int) != 4001) = false := by rw [h41]; rfl
                clear HK h41 h40
                go_wp2_with fail
                go_round
                case rel => exact ⟨k + 1, by omega, by go_num, HK2⟩
                case measure => simp [intOf]; omega
              · have e : ((f.text.size : Int) != 4000) = true := by rw [bne_iff_ne]; omega
                have e2 : ((f.text.size : Int) != 4001) = true := by rw [bne_iff_ne]; omega
                have HB2 := Lib.hid (HB.out (by unfold fitsF; simp [ht, h40, h41]))
                clear HK HB h41 h40
                go_wp2_with fail
                go_ret
                exact ⟨by rw [HB2.out]; rfl, rfl⟩
        · have HB2 := Lib.hid (HB.out (by unfold fitsF; simp [hp]))
          clear HK HB
          go_wp2_with fail
          go_ret
          exact ⟨by rw [HB2.out]; rfl, rfl⟩
      · obtain rfl : k = l.length := by omega
        have HT : Hid (longN l = 0) := longN_good H31.out (fun r h => by obtain ⟨j, hj, rfl⟩ := List.getElem_of_mem h; exact HA.out j hj hj)
        clear HA
        go_wp2_with fail
        go_ret
        exact ⟨by rw [HT.out]; rfl, rfl⟩

set_option maxRecDepth 100000 in
theorem longFiles_exact (v : Value) (l : List FileB) (w : World) (hv : FRow w v l) :
    Calls Tryz.prog 7 #[v] w (fun e w' => e = .returned (.int .i64 (longN l)) ∧ w = w') := by
  by_cases h : l.length ≤ 25 ∨ l.length = 31
  · exact longFiles_exactFew v l w hv h
  · obtain ⟨ao, cap, rfl, h1, h2, H3⟩ := hv
    clear H3
    have g1 : ¬ l.length ≤ 25 := by omega
    have g2 : ((l.length : Int) != 31) = true := by rw [bne_iff_ne]; omega
    have HB2 : Hid (longN l = 1) := longN_many h
    clear h
    go_enter Tryz.func7, Tryz.ntmps7
    go_wp2_with fail
    go_ret
    exact ⟨by rw [HB2.out]; rfl, rfl⟩

end Go.Proofs.YtamimigpnhblmaaGreatDoor

namespace Go.Proofs.YtamimigpnhblmaaGreatDoor
open Go Go.RowKit

theorem index_sum (s : ByteArray) (k n : Nat) (h : k + n < s.size) (W : World) : (Instr.index 9 (.string s) (.int .i64 ((k : Int) + n))).run Tryz.prog W = .ok (.int .u8 s[k + n].toNat) W :=
  index_nat s _ (k + n) h (by omega) W

theorem wlen (acc : List UInt8) (t s : ByteArray) (k : Nat) (h : acc.length ≤ 23 * k) (ht : t.size ≤ 21) (hk : k ≤ s.size) (hs : s.size ≤ 1073741824) :
    (Lib.byteCells acc).length + (t ++ { data := #[58] } ++ s.extract k (k + 1)).size ≤ 140737488355328 := by
  rw [Lib.byteCells_length, ← bl_length, bl_append, bl_append, bl_extract]
  have h1 : (bl t).length ≤ 21 := by rw [bl_length]; exact ht
  have h2 : (List.take (k + 1 - k) (List.drop k (bl s))).length ≤ 1 := by simp only [List.length_take]; omega
  have h3 : (bl { data := #[58] }).length = 1 := rfl
  simp only [List.length_append]
  omega

set_option maxHeartbeats 1000000 in
set_option maxRecDepth 100000 in
theorem press_any (s : ByteArray) (w : World) (hs : s.size ≤ 1073741824) (ht : PowTab w) :
    Calls Tryz.prog 42 #[.string s] w fun e w' => ∃ t : ByteArray, e = .returned (.string t) ∧ Hid (bl t = pressL (bl s)) ∧ Below w.heap.size w w' := by
  go_enter Tryz.func42, Tryz.ntmps42
  go_wp2_with fail
  have hI := isB_new w w.heap.size (Nat.le_refl _)
  have hb0 : Below w.heap.size w (w.alloc (.cells #[.pointer none, .slice none 0 0] 120)) := (Below.refl _ _).alloc (Nat.le_refl _) _
  generalize w.alloc (.cells #[.pointer none, .slice none 0 0] 120) = W at hI hb0 ⊢
  go_loopw [4] (fun i wr => ∃ (k : Nat) (acc : List UInt8), k ≤ s.size ∧ i = .int .i64 k ∧ Hid (acc ++ pressL ((bl s).drop k) = pressL (bl s)) ∧ acc.length ≤ 23 * k ∧ IsB w.heap.size w.heap.size (Lib.byteCells acc) wr ∧ Below w.heap.size w wr) (fun i _ => s.size - (intOf i).toNat)
  case atStart => exact ⟨0, [], Nat.zero_le _, rfl, rfl, Nat.le_refl _, hI, hb0⟩
  case round =>
    obtain ⟨k, acc, hk, rfl, H, hlen, hB, hb⟩ := hrel
    by_cases hlt : k < s.size
    · go_wp2_with fail
      obtain ⟨wo, rfl⟩ : ∃ wo : World, wo = wr := ⟨_, rfl⟩
      go_loopw [5] (fun j wi => ∃ n : Nat, 1 ≤ n ∧ k + n ≤ s.size ∧ j = .int .i64 n ∧ Hid (((bl s).drop k).take n = List.replicate n s[k]) ∧ Below wo.heap.size wo wi ∧ IsB w.heap.size w.heap.size (Lib.byteCells acc) wi) (fun j _ => s.size - k - (intOf j).toNat)
      case atStart => exact ⟨1, Nat.le_refl _, by omega, rfl, by rw [drop_cons s k hlt]; rfl, Below.refl _ _, hB⟩
      case round =>
        obtain ⟨n, hn1, hkn, rfl, HR, hbi, hBi⟩ := hrel
        by_cases hcont : ∃ h : k + n < s.size, s[k + n] = s[k]
        · obtain ⟨hkn2, heq⟩ := hcont
          have HR2 : Hid (((bl s).drop k).take (n + 1) = List.replicate (n + 1) s[k]) := by
            have hd : ((bl s).drop k)[n]? = some s[k] := by
              rw [List.getElem?_drop, List.getElem?_eq_getElem (by rw [bl_length]; exact hkn2), ← heq]; rfl
            have h1 := HR.out
            show ((bl s).drop k).take (n + 1) = _
            rw [List.take_add_one, h1, hd, List.replicate_succ']; rfl
          have e1 : IntKind.i64.wrap ((k : Int) + n) = (k : Int) + n := IntWalk.i64_in _ (by omega)
          have e3 : ∀ W : World, (Instr.index 9 (.string s) (.int .i64 ((k : Int) + n))).run Tryz.prog W = .ok (.int .u8 s[k + n].toNat) W := index_sum s k n hkn2
          have d1 : decide ((k : Int) + n < s.size) = true := by simp; omega
          have hc : ((s[k + n].toNat : Int) == s[k].toNat) = true := by rw [heq]; simp
          go_wp2_with fail
          go_quiet (fail)
          clear e1 e3 hc
          go_wp2_with fail
          go_roundw
          case rel => exact ⟨n + 1, by omega, by omega, by go_num, HR2, hbi.trans (below_drewN _ _ _), isB_drewN hBi _⟩
          case measure => simp [intOf]; omega
        · have hrest : ((bl s).drop (k + n)).head? ≠ some s[k] := by
            intro h
            by_cases hkn2 : k + n < s.size
            · rw [drop_cons s _ hkn2] at h
              exact hcont ⟨hkn2, by simpa using h⟩
            · rw [drop_nil s _ (by omega)] at h; cases h
          have hsplit : (bl s).drop k = List.replicate n s[k] ++ (bl s).drop (k + n) := by
            rw [← HR.out, ← List.drop_drop, List.take_append_drop]
          have hpress : pressL ((bl s).drop k) = runText (n, s[k]) ++ pressL ((bl s).drop (k + n)) := by
            rw [hsplit]; exact pressL_run _ _ n hn1 hrest
          have hone := bl_one s k hlt
          have hrl := runText_len n s[k] (by omega)
          have HP := Lib.hid hpress
          have HO := Lib.hid hone
          have hB2 := hb.trans (hbi.mono hb.size)
          have hT := ht.ext hB2
          clear hrest hsplit hpress hone HR
          have e1 : IntKind.i64.wrap ((k : Int) + n) = (k : Int) + n := IntWalk.i64_in _ (by omega)
          by_cases hkn2 : k + n < s.size
          · have e3 : ∀ W : World, (Instr.index 9 (.string s) (.int .i64 ((k : Int) + n))).run Tryz.prog W = .ok (.int .u8 s[k + n].toNat) W := index_sum s k n hkn2
            have d1 : decide ((k : Int) + n < s.size) = true := by simp; omega
            have hc : ((s[k + n].toNat : Int) == s[k].toNat) = false := by
              rw [beq_eq_false_iff_ne]
              intro h
              exact hcont ⟨hkn2, UInt8.toNat_inj.1 (by omega)⟩
            clear hcont
            go_wp2_with fail
            go_quiet (fail)
            clear e1 e3 hc
            go_wp2_with fail
            have sl : ∀ W : World, (Instr.slice 9 (.string s) (some (.int .i64 (k : Int))) (some (.int .i64 ((k : Int) + 1))) none).run Tryz.prog W = .ok (.string (s.extract k (k + 1))) W := slice_nat s _ _ k (k + 1) (by omega) (by omega) rfl (by omega)
            have ek : IntKind.i64.wrap ((k : Int) + 1) = (k : Int) + 1 := IntWalk.i64_in _ (by omega)
            go_region_with (first
              | (go_at_call 76; refine (itoa_any n (by omega) _ (by exact hT)).mono ?_; rintro e w2 ⟨t, rfl, HTX, hts, hb2⟩)
              | (go_at_call 92; refine (writeString_any _ _ _ _ _ (isB_below hb2 (by exact hBi)) (wlen acc t s k hlen hts (by omega) hs) (Nat.le_trans hB2.size (by exact hb2.size))).mono ?_; rintro e w3 ⟨rfl, hB3, hb3⟩))
            clear sl ek
            have hcells : Lib.byteCells acc ++ Lib.strCells (t ++ { data := #[58] } ++ s.extract k (k + 1)) = Lib.byteCells (acc ++ runText (n, s[k])) := by
              rw [strCells_bl, bl_append, bl_append, HTX.out, HO.out, show bl { data := #[58] } = [58] from rfl, ← byteCells_append]
              simp [runText]
            have hB4 : IsB w.heap.size w.heap.size (Lib.byteCells (acc ++ runText (n, s[k]))) w3 := by rw [← hcells]; exact .inr hB3
            have hW3 : Below w.heap.size w w3 := hB2.trans (((below_drewN _ _ _).trans (hb2.mono (by exact hB2.size))).trans hb3)
            have H2 : Hid ((acc ++ runText (n, s[k])) ++ pressL ((bl s).drop (k + n)) = pressL (bl s)) := by
              show _ = _
              rw [List.append_assoc, ← HP.out]; exact H.out
            have hl2 : (acc ++ runText (n, s[k])).length ≤ 23 * (k + n) := by rw [List.length_append]; omega
            clear hcells hB3 hb3 hb2 H HP HO
            go_wp2_with fail
            go_roundw
            case rel => exact ⟨k + n, acc ++ runText (n, s[k]), by omega, by go_num, H2, hl2, hB4, hW3⟩
            case measure => simp [intOf]; omega
          · have d1 : decide ((k : Int) + n < s.size) = false := by simp; omega
            clear hcont
            go_wp2_with fail
            go_quiet (fail)
            clear e1
            go_wp2_with fail
            have sl : ∀ W : World, (Instr.slice 9 (.string s) (some (.int .i64 (k : Int))) (some (.int .i64 ((k : Int) + 1))) none).run Tryz.prog W = .ok (.string (s.extract k (k + 1))) W := slice_nat s _ _ k (k + 1) (by omega) (by omega) rfl (by omega)
            have ek : IntKind.i64.wrap ((k : Int) + 1) = (k : Int) + 1 := IntWalk.i64_in _ (by omega)
            go_region_with (first
              | (go_at_call 76; refine (itoa_any n (by omega) _ (by exact hT)).mono ?_; rintro e w2 ⟨t, rfl, HTX, hts, hb2⟩)
              | (go_at_call 92; refine (writeString_any _ _ _ _ _ (isB_below hb2 (by exact hBi)) (wlen acc t s k hlen hts (by omega) hs) (Nat.le_trans hB2.size (by exact hb2.size))).mono ?_; rintro e w3 ⟨rfl, hB3, hb3⟩))
            clear sl ek
            have hcells : Lib.byteCells acc ++ Lib.strCells (t ++ { data := #[58] } ++ s.extract k (k + 1)) = Lib.byteCells (acc ++ runText (n, s[k])) := by
              rw [strCells_bl, bl_append, bl_append, HTX.out, HO.out, show bl { data := #[58] } = [58] from rfl, ← byteCells_append]
              simp [runText]
            have hB4 : IsB w.heap.size w.heap.size (Lib.byteCells (acc ++ runText (n, s[k]))) w3 := by rw [← hcells]; exact .inr hB3
            have hW3 : Below w.heap.size w w3 := hB2.trans (((below_drewN _ _ _).trans (hb2.mono (by exact hB2.size))).trans hb3)
            have H2 : Hid ((acc ++ runText (n, s[k])) ++ pressL ((bl s).drop (k + n)) = pressL (bl s)) := by
              show _ = _
              rw [List.append_assoc, ← HP.out]; exact H.out
            have hl2 : (acc ++ runText (n, s[k])).length ≤ 23 * (k + n) := by rw [List.length_append]; omega
            clear hcells hB3 hb3 hb2 H HP HO
            go_wp2_with fail
            go_roundw
            case rel => exact ⟨k + n, acc ++ runText (n, s[k]), by omega, by go_num, H2, hl2, hB4, hW3⟩
            case measure => simp [intOf]; omega
    · have e : pressL ((bl s).drop k) = [] := by rw [drop_nil s k (by omega)]; rfl
      have HE : Hid (acc = pressL (bl s)) := by have := H.out; rw [e, List.append_nil] at this; exact this
      clear e H
      go_wp2_with fail
      refine (Tryz.Builder_String_any _ _ acc _ hB hb.size).mono ?_
      rintro e w' ⟨rfl, hb'⟩
      have hfin : Below w.heap.size w w' := hb.trans hb'
      clear hb' hB hb
      go_wp2_with fail
      go_ret
      exact ⟨⟨acc.toArray⟩, rfl, HE.out, hfin⟩
end Go.Proofs.YtamimigpnhblmaaGreatDoor
