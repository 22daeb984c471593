/- The lock laws' own small words: locked, longWants. chandlerylaw3.faulted. -/
import Derived.Test.YtgchgdkpipanjaaGreatDoorKLockAll
import Derived.Test.YtgchgdkpipanjaaGreatDoorKWanted
import Derived.Test.YtgchgdkpipanjaaGreatDoorKWantPlains
import Derived.Test.YtgchgdkpipanjaaGreatDoorKTold
namespace Go.Proofs.YtgchgdkpipanjaaGreatDoor
open Go Go.RowKit

def lockedS : ByteArray := ⟨#[97, 32, 104, 116, 116, 112, 58, 47, 47, 104, 47, 120, 32, 112, 108, 97, 105, 110, 32, 48, 32, 115, 55, 10]⟩
def lockedW : WantB := ⟨⟨#[97]⟩, ⟨#[104, 116, 116, 112, 58, 47, 47, 104, 47, 120]⟩, ⟨#[112, 108, 97, 105, 110]⟩, 0, 7⟩
theorem locked_fine : wantE lockedW = 0 := by decide +kernel
theorem locked_text : lockTx [lockedW] = bl lockedS := by
  have h0 : Lib.decDigits 0 = [48] := decDigits_small (by decide)
  have h7 : Lib.decDigits 7 = [55] := decDigits_small (by decide)
  unfold lockTx
  rw [List.flatMap_cons, List.flatMap_nil, List.append_nil]
  unfold wantTx
  rw [if_neg (by rw [locked_fine]; simp)]
  rw [show (lockedW).strip.toNat = 0 from rfl, show (lockedW).sum.toNat = 7 from rfl, h0, h7]
  rfl
theorem locked_set : setLk [] lockedW = (⟨0, none⟩, [lockedW]) := by
  rw [setLk_from (l := []) rfl locked_fine]
  rfl
theorem locked_small : SmallW lockedW := ⟨by decide, by decide, by decide⟩
theorem locked_er : lockEr [lockedW] = ⟨0, none⟩ := LockOk.er ⟨by decide, fun w hw => by
  obtain rfl := List.mem_singleton.1 hw
  exact locked_fine, by simp⟩

set_option maxHeartbeats 1000000 in
set_option maxRecDepth 100000 in
theorem locked_any {E : Nat → Addr} (w : World) (hE : KEnv E w) :
    Calls Tryz.prog 7 #[] w fun e w' => e = .returned (.bool true) ∧ Below w.heap.size w w' := by
  have HE := Lib.hid hE
  obtain ⟨q, hq⟩ : ∃ q, w.heap.size = q := ⟨_, rfl⟩
  obtain ⟨wa, hwa⟩ : ∃ wa, w.alloc (.cells #[.string ⟨#[97]⟩, .string ⟨#[104, 116, 116, 112, 58, 47, 47, 104, 47, 120]⟩, .string ⟨#[112, 108, 97, 105, 110]⟩, .int .i64 0, .int .i64 7] 41) = wa := ⟨_, rfl⟩
  have hal : Below w.heap.size w wa := by rw [← hwa]; exact (Below.refl _ _).alloc (Nat.le_refl _) _
  have BX : WBox wa q lockedW := by rw [← hwa, ← hq]; exact WBox.new w lockedW
  obtain ⟨c0, c1, c2, c3, c4⟩ : wa.cell? ⟨q, 0, none⟩ = some (.string ⟨#[97]⟩) ∧ wa.cell? ⟨q, 1, none⟩ = some (.string ⟨#[104, 116, 116, 112, 58, 47, 47, 104, 47, 120]⟩) ∧ wa.cell? ⟨q, 2, none⟩ = some (.string ⟨#[112, 108, 97, 105, 110]⟩) ∧ wa.cell? ⟨q, 3, none⟩ = some (.int .i64 0) ∧ wa.cell? ⟨q, 4, none⟩ = some (.int .i64 7) := BX.cells
  have B1 := Lib.hid hal
  have HWA := Lib.hid hwa
  have HQ := Lib.hid hq
  have C := Lib.hid (lockSet_any (.slice none 0 0) [] lockedW wa (WOwn.nil wa 0).arg (by decide) (by intro f hf; cases hf) locked_small (hE.ext hal).1)
  have CT : Hid (∀ (v : Value) (W : World), WRow W v [lockedW] → KEnv E W → Calls Tryz.prog 10 #[v] W (LTextPost E [lockedW] W)) := fun v W h hk => lockText_any v [lockedW] W h (by decide) (by intro f hf; obtain rfl := List.mem_singleton.1 hf; exact locked_small) hk
  clear hE hal BX hwa hq
  go_enter Tryz.func7, Tryz.ntmps7
  go_upto_region 2 with fail
  rw [HWA.out, HQ.out]
  go_wp2_with fail
  refine C.out.mono ?_
  clear C
  rintro e w1 ⟨⟨v, ev, rfl, HI, HO⟩, hb1⟩
  rw [locked_set] at HI HO
  obtain rfl : ev = .nilIface := HI.out.nil0 rfl
  have B2 := Lib.hid (B1.out.trans (hb1.mono B1.out.size))
  clear hb1 c0 c1 c2 c3 c4
  go_wp2_with fail
  refine (CT.out v w1 HO.out.row (HE.out.ext B2.out)).mono ?_
  rintro e w2 ⟨⟨t, ev, rfl, HT, HI2⟩, hb2⟩
  rw [locked_er] at HI2 HT
  obtain rfl : ev = .nilIface := HI2.out.nil0 rfl
  obtain rfl : t = lockedS := bl_inj (by rw [HT.out, if_pos rfl, locked_text])
  have q0 : (lockedS.toList == lockedS.toList) = true := beq_self_eq_true _
  clear CT
  unfold lockedS at *
  go_wp2_with fail
  go_ret
  exact ⟨rfl, B2.out.trans (hb2.mono B2.out.size)⟩

/-- Too many wants for a law, or one too long. -/
def longLs (l : List WantB) : Bool := decide (22 < l.length) || l.any fun x => decide (0 < longW x)
theorem longLs_false {l : List WantB} (h : longLs l = false) : l.length ≤ 22 ∧ ∀ x ∈ l, x.name.size ≤ 30 ∧ x.url.size ≤ 120 ∧ x.kind.size ≤ 20 := by
  unfold longLs at h
  rw [Bool.or_eq_false_iff] at h
  refine ⟨by have := of_decide_eq_false h.1; omega, fun x hx => ?_⟩
  have := of_decide_eq_false (by simpa using (List.any_eq_false.1 h.2) x hx : decide (0 < longW x) = false)
  unfold longW at this
  split at this <;> omega
theorem longLs_small {l : List WantB} (h : longLs l = false) : ∀ x ∈ l, SmallW x := fun x hx => by
  have := (longLs_false h).2 x hx
  exact ⟨by omega, by omega, by omega⟩

set_option maxHeartbeats 1000000 in
set_option maxRecDepth 100000 in
theorem longWants_any (v : Value) (l : List WantB) (w : World) (hv : WRow w v l) :
    Calls Tryz.prog 8 #[v] w fun e w' => e = .returned (.bool (longLs l)) ∧ Below w.heap.size w w' := by
  have HV := Lib.hid hv
  obtain ⟨ao, cap, rfl⟩ := hv.len
  clear hv
  by_cases hlen : 22 < l.length
  · have HX : Hid (longLs l = true) := by show _ = _; unfold longLs; rw [decide_eq_true hlen]; rfl
    have hd : decide ((l.length : Int) > 22) = true := decide_eq_true (by omega)
    clear hlen
    go_enter Tryz.func8, Tryz.ntmps8
    go_wp2_with fail
    go_ret
    exact ⟨congrArg (fun b => Ending.returned (.bool b)) HX.out.symm, Below.refl _ _⟩
  · have hd : decide ((l.length : Int) > 22) = false := decide_eq_false (by omega)
    obtain ⟨n, hnn⟩ : ∃ n, l.length = n := ⟨_, rfl⟩
    have HN := Lib.hid hnn
    rw [hnn] at HV hlen hd ⊢
    clear hnn
    go_enter Tryz.func8, Tryz.ntmps8
    go_wp2_with fail
    go_loopw [3] (fun i w1 => ∃ k : Nat, k ≤ n ∧ i = .int .i64 k ∧ Below w.heap.size w w1 ∧ Hid ((l.take k).any (fun x => decide (0 < longW x)) = false)) (fun i _ => n - (intOf i).toNat)
    case atStart => exact ⟨0, Nat.zero_le _, rfl, Below.refl _ _, rfl⟩
    case round =>
      obtain ⟨k, hk, rfl, hb, HK⟩ := hrel
      by_cases hlt : k < n
      · have hll : k < l.length := by rw [HN.out]; exact hlt
        obtain ⟨b, off, rfl, hcell⟩ := HV.out.at hll
        obtain ⟨q0, q1, q2, q3, q4⟩ := hcell wr hb
        have C := Lib.hid (longWant_any l[k] wr)
        have HS : Hid ((l.take (k + 1)).any (fun x => decide (0 < longW x)) = decide (0 < longW l[k])) := by
          show _ = _
          rw [List.take_succ_eq_append_getElem hll, List.any_append, HK.out]; simp
        have HM : Hid (longW l[k] = 0 ∨ longLs l = true) := by
          by_cases hz : longW l[k] = 0
          · exact .inl hz
          · exact .inr (by unfold longLs; rw [Bool.or_eq_true]; exact .inr (List.any_eq_true.2 ⟨_, List.getElem_mem hll, decide_eq_true (by omega)⟩))
        generalize l[k] = f at q0 q1 q2 q3 q4 C HS HM
        clear hcell HK hll
        go_wp2_with fail
        refine C.out.mono ?_
        clear C
        rintro e w1 ⟨rfl, hb1⟩
        obtain ⟨z, hz⟩ : ∃ z, longW f = z := ⟨_, rfl⟩
        rw [hz] at HS HM ⊢
        have B1 := Lib.hid (hb.trans (hb1.mono hb.size))
        clear hz hb1 hb q0 q1 q2 q3 q4
        by_cases h0 : z = 0
        · subst h0
          clear HM
          go_wp2_with fail
          go_roundw
          case rel => exact ⟨k + 1, by omega, by go_num, B1.out, HS⟩
          case measure => simp [intOf]; omega
        · have HX : Hid (longLs l = true) := by
            rcases HM.out with h | h
            · exact absurd h h0
            · exact h
          have hz0 : 0 < z := Nat.pos_of_ne_zero h0
          clear HM HS h0
          go_wp2_with fail
          go_ret
          exact ⟨congrArg (fun b => Ending.returned (.bool b)) HX.out.symm, B1.out⟩
      · obtain rfl : k = n := by omega
        have HX : Hid (longLs l = false) := by
          show _ = _
          unfold longLs
          rw [decide_eq_false (by rw [HN.out]; exact hlen), Bool.false_or]
          have := HK.out
          rwa [List.take_of_length_le (by rw [HN.out]; exact Nat.le_refl _)] at this
        clear HK
        go_wp2_with fail
        go_ret
        exact ⟨congrArg (fun b => Ending.returned (.bool b)) HX.out.symm, hb⟩
end Go.Proofs.YtgchgdkpipanjaaGreatDoor

namespace Go.Proofs.YtgchgdkpipanjaaGreatDoor
open Go Go.RowKit

/-- faulted: an error's number and place. -/
def faultB3 (er : Er) (c a : Int) : Bool := (er.code : Int) == c && ((er.code : Int) == 0 || er.at?.getD (-1) == a)

theorem faulted3_any {E : Nat → Addr} {w : World} {v : Value} {er : Er} (hE : Env E w) (hv : IsErr E w v er) (c a : Int) : Calls Tryz.prog 28 #[v, .agg #[.int .i64 c, .int .i64 a]] w fun e w' =>
    e = .returned (.bool (faultB3 er c a)) ∧ Below w.heap.size w w' := by
  have hc := Lib.hid (code_any (hE.ext ((Below.refl _ _).alloc (Nat.le_refl _) (.cells #[.int .i64 c, .int .i64 a] 59))) (hv.ext ((Below.refl _ _).alloc (Nat.le_refl _) _)))
  have hfin : faultB3 er c a = ((er.code : Int) == c && ((er.code : Int) == 0 || er.at?.getD (-1) == a)) := rfl
  have HF := Lib.hid hfin; clear hfin hE hv
  generalize hk : (er.code : Int) = k at hc HF
  generalize ha : er.at?.getD (-1) = b at hc HF
  clear hk ha
  generalize faultB3 er c a = r at HF ⊢
  cases h1 : (k == c)
  all_goals cases h2 : (k == 0)
  all_goals
    go_enter Tryz.func28, Tryz.ntmps28
    go_wp2_with fail
    refine hc.out.mono ?_
    rintro e w' ⟨rfl, hb⟩
    have hb' : Below w.heap.size w w' := ((Below.refl _ _).alloc (Nat.le_refl _) _).trans (hb.mono (by simp))
    have c0 : w'.cell? ⟨w.heap.size, 0, none⟩ = some (.int .i64 c) := by rw [hb.cell (p := ⟨w.heap.size, 0, none⟩) (by simp)]; simp
    have c1 : w'.cell? ⟨w.heap.size, 1, none⟩ = some (.int .i64 a) := by rw [hb.cell (p := ⟨w.heap.size, 1, none⟩) (by simp)]; simp
    clear hb
    go_wp2_with fail
    go_ret
    exact ⟨by rw [HF.out, h1]; simp [h2], hb'⟩
end Go.Proofs.YtgchgdkpipanjaaGreatDoor
