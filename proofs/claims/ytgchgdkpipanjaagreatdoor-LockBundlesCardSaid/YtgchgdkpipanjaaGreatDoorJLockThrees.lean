/- The lock laws' own small words: locked, longWants. chandlerylaw3.faulted. chandlerylaw3.hold: trees held in both. The law's own small word: chandlerylaw3.coded; an error's value by its number. -/
import Derived.Test.YtgchgdkpipanjaaGreatDoorJLockAll
import Derived.Test.YtgchgdkpipanjaaGreatDoorJWanted
import Derived.Test.YtgchgdkpipanjaaGreatDoorJWantPlains
import Derived.Test.YtgchgdkpipanjaaGreatDoorJTold
import Derived.Test.YtgchgdkpipanjaaGreatDoorJTreesUp
import Derived.Test.YtgchgdkpipanjaaGreatDoorJRefHeldUp
import Derived.Test.YtgchgdkpipanjaaGreatDoorJHeldPut
import Derived.Test.YtgchgdkpipanjaaGreatDoorJTreeFew
import Derived.Test.YtgchgdkpipanjaaGreatDoorJFiles
import Derived.Test.YtgchgdkpipanjaaGreatDoorJPathed
namespace Go.Proofs.YtgchgdkpipanjaaGreatDoor
open Go Go.RowKit

def lockedS : ByteArray := ⟨#[97, 32, 104, 116, 116, 112, 58, 47, 47, 104, 47, 120, 32, 112, 108, 97, 105, 110, 32, 48, 32, 115, 55, 10]⟩
def lockedW : WantB := ⟨⟨#[97]⟩, ⟨#[104, 116, 116, 112, 58, 47, 47, 104, 47, 120]⟩, ⟨#[112, 108, 97, 105, 110]⟩, 0, 7⟩
theorem locked_fine : wantE lockedW = 0 := by decide +kernel
theorem locked_text : lockTx [lockedW] = bl lockedS := by
  have h0 : Lib.decDigits 0 = [48] := decDigits_small (by decide)
  have h7 : Lib.decDigits 7 = [55] := decDigits_small (by decide)
  unfold lockTx
  rw [List.flatMap_cons, List.flatMap_nil, List.append_nil]
  unfold wantTx
  rw [if_neg (by rw [locked_fine]; simp)]
  rw [show (lockedW).strip.toNat = 0 from rfl, show (lockedW).sum.toNat = 7 from rfl, h0, h7]
  rfl
theorem locked_set : setLk [] lockedW = (⟨0, none⟩, [lockedW]) := by
  rw [setLk_from (l := []) rfl locked_fine]
  rfl
theorem locked_small : SmallW lockedW := ⟨by decide, by decide, by decide⟩
theorem locked_er : lockEr [lockedW] = ⟨0, none⟩ := LockOk.er ⟨by decide, fun w hw => by
  obtain rfl := List.mem_singleton.1 hw
  exact locked_fine, by simp⟩

set_option maxHeartbeats 1000000 in
set_option maxRecDepth 100000 in
theorem locked_any {E : Nat → Addr} (w : World) (hE : KEnv E w) :
    Calls Tryz.prog 7 #[] w fun e w' => e = .returned (.bool true) ∧ Below w.heap.size w w' := by
  have HE := Lib.hid hE
  obtain ⟨q, hq⟩ : ∃ q, w.heap.size = q := ⟨_, rfl⟩
  obtain ⟨wa, hwa⟩ : ∃ wa, w.alloc (.cells #[.string ⟨#[97]⟩, .string ⟨#[104, 116, 116, 112, 58, 47, 47, 104, 47, 120]⟩, .string ⟨#[112, 108, 97, 105, 110]⟩, .int .i64 0, .int .i64 7] 41) = wa := ⟨_, rfl⟩
  have hal : Below w.heap.size w wa := by rw [← hwa]; exact (Below.refl _ _).alloc (Nat.le_refl _) _
  have BX : WBox wa q lockedW := by rw [← hwa, ← hq]; exact WBox.new w lockedW
  obtain ⟨c0, c1, c2, c3, c4⟩ : wa.cell? ⟨q, 0, none⟩ = some (.string ⟨#[97]⟩) ∧ wa.cell? ⟨q, 1, none⟩ = some (.string ⟨#[104, 116, 116, 112, 58, 47, 47, 104, 47, 120]⟩) ∧ wa.cell? ⟨q, 2, none⟩ = some (.string ⟨#[112, 108, 97, 105, 110]⟩) ∧ wa.cell? ⟨q, 3, none⟩ = some (.int .i64 0) ∧ wa.cell? ⟨q, 4, none⟩ = some (.int .i64 7) := BX.cells
  have B1 := Lib.hid hal
  have HWA := Lib.hid hwa
  have HQ := Lib.hid hq
  have C := Lib.hid (lockSet_any (.slice none 0 0) [] lockedW wa (WOwn.nil wa 0).arg (by decide) (by intro f hf; cases hf) locked_small (hE.ext hal).1)
  have CT : Hid (∀ (v : Value) (W : World), WRow W v [lockedW] → KEnv E W → Calls Tryz.prog 10 #[v] W (LTextPost E [lockedW] W)) := fun v W h hk => lockText_any v [lockedW] W h (by decide) (by intro f hf; obtain rfl := List.mem_singleton.1 hf; exact locked_small) hk
  clear hE hal BX hwa hq
  go_enter Tryz.func7, Tryz.ntmps7
  go_upto_region 2 with fail
  rw [HWA.out, HQ.out]
  go_wp2_with fail
  refine C.out.mono ?_
  clear C
  rintro e w1 ⟨⟨v, ev, rfl, HI, HO⟩, hb1⟩
  rw [locked_set] at HI HO
  obtain rfl : ev = .nilIface := HI.out.nil0 rfl
  have B2 := Lib.hid (B1.out.trans (hb1.mono B1.out.size))
  clear hb1 c0 c1 c2 c3 c4
  go_wp2_with fail
  refine (CT.out v w1 HO.out.row (HE.out.ext B2.out)).mono ?_
  rintro e w2 ⟨⟨t, ev, rfl, HT, HI2⟩, hb2⟩
  rw [locked_er] at HI2 HT
  obtain rfl : ev = .nilIface := HI2.out.nil0 rfl
  obtain rfl : t = lockedS := bl_inj (by rw [HT.out, if_pos rfl, locked_text])
  have q0 : (lockedS.toList == lockedS.toList) = true := beq_self_eq_true _
  clear CT
  unfold lockedS at *
  go_wp2_with fail
  go_ret
  exact ⟨rfl, B2.out.trans (hb2.mono B2.out.size)⟩

/-- Too many wants for a law, or one too long. -/
def longLs (l : List WantB) : Bool := decide (22 < l.length) || l.any fun x => decide (0 < longW x)
theorem longLs_false {l : List WantB} (h : longLs l = false) : l.length ≤ 22 ∧ ∀ x ∈ l, x.name.size ≤ 30 ∧ x.url.size ≤ 120 ∧ x.kind.size ≤ 20 := by
  unfold longLs at h
  rw [Bool.or_eq_false_iff] at h
  refine ⟨by have := of_decide_eq_false h.1; omega, fun x hx => ?_⟩
  have := of_decide_eq_false (by simpa using (List.any_eq_false.1 h.2) x hx : decide (0 < longW x) = false)
  unfold longW at this
  split at this <;> omega
theorem longLs_small {l : List WantB} (h : longLs l = false) : ∀ x ∈ l, SmallW x := fun x hx => by
  have := (longLs_false h).2 x hx
  exact ⟨by omega, by omega, by omega⟩

set_option maxHeartbeats 1000000 in
set_option maxRecDepth 100000 in
theorem longWants_any (v : Value) (l : List WantB) (w : World) (hv : WRow w v l) :
    Calls Tryz.prog 8 #[v] w fun e w' => e = .returned (.bool (longLs l)) ∧ Below w.heap.size w w' := by
  have HV := Lib.hid hv
  obtain ⟨ao, cap, rfl⟩ := hv.len
  clear hv
  by_cases hlen : 22 < l.length
  · have HX : Hid (longLs l = true) := by show _ = _; unfold longLs; rw [decide_eq_true hlen]; rfl
    have hd : decide ((l.length : Int) > 22) = true := decide_eq_true (by omega)
    clear hlen
    go_enter Tryz.func8, Tryz.ntmps8
    go_wp2_with fail
    go_ret
    exact ⟨congrArg (fun b => Ending.returned (.bool b)) HX.out.symm, Below.refl _ _⟩
  · have hd : decide ((l.length : Int) > 22) = false := decide_eq_false (by omega)
    obtain ⟨n, hnn⟩ : ∃ n, l.length = n := ⟨_, rfl⟩
    have HN := Lib.hid hnn
    rw [hnn] at HV hlen hd ⊢
    clear hnn
    go_enter Tryz.func8, Tryz.ntmps8
    go_wp2_with fail
    go_loopw [3] (fun i w1 => ∃ k : Nat, k ≤ n ∧ i = .int .i64 k ∧ Below w.heap.size w w1 ∧ Hid ((l.take k).any (fun x => decide (0 < longW x)) = false)) (fun i _ => n - (intOf i).toNat)
    case atStart => exact ⟨0, Nat.zero_le _, rfl, Below.refl _ _, rfl⟩
    case round =>
      obtain ⟨k, hk, rfl, hb, HK⟩ := hrel
      by_cases hlt : k < n
      · have hll : k < l.length := by rw [HN.out]; exact hlt
        obtain ⟨b, off, rfl, hcell⟩ := HV.out.at hll
        obtain ⟨q0, q1, q2, q3, q4⟩ := hcell wr hb
        have C := Lib.hid (longWant_any l[k] wr)
        have HS : Hid ((l.take (k + 1)).any (fun x => decide (0 < longW x)) = decide (0 < longW l[k])) := by
          show _ = _
          rw [List.take_succ_eq_append_getElem hll, List.any_append, HK.out]; simp
        have HM : Hid (longW l[k] = 0 ∨ longLs l = true) := by
          by_cases hz : longW l[k] = 0
          · exact .inl hz
          · exact .inr (by unfold longLs; rw [Bool.or_eq_true]; exact .inr (List.any_eq_true.2 ⟨_, List.getElem_mem hll, decide_eq_true (by omega)⟩))
        generalize l[k] = f at q0 q1 q2 q3 q4 C HS HM
        clear hcell HK hll
        go_wp2_with fail
        refine C.out.mono ?_
        clear C
        rintro e w1 ⟨rfl, hb1⟩
        obtain ⟨z, hz⟩ : ∃ z, longW f = z := ⟨_, rfl⟩
        rw [hz] at HS HM ⊢
        have B1 := Lib.hid (hb.trans (hb1.mono hb.size))
        clear hz hb1 hb q0 q1 q2 q3 q4
        by_cases h0 : z = 0
        · subst h0
          clear HM
          go_wp2_with fail
          go_roundw
          case rel => exact ⟨k + 1, by omega, by go_num, B1.out, HS⟩
          case measure => simp [intOf]; omega
        · have HX : Hid (longLs l = true) := by
            rcases HM.out with h | h
            · exact absurd h h0
            · exact h
          have hz0 : 0 < z := Nat.pos_of_ne_zero h0
          clear HM HS h0
          go_wp2_with fail
          go_ret
          exact ⟨congrArg (fun b => Ending.returned (.bool b)) HX.out.symm, B1.out⟩
      · obtain rfl : k = n := by omega
        have HX : Hid (longLs l = false) := by
          show _ = _
          unfold longLs
          rw [decide_eq_false (by rw [HN.out]; exact hlen), Bool.false_or]
          have := HK.out
          rwa [List.take_of_length_le (by rw [HN.out]; exact Nat.le_refl _)] at this
        clear HK
        go_wp2_with fail
        go_ret
        exact ⟨congrArg (fun b => Ending.returned (.bool b)) HX.out.symm, hb⟩
end Go.Proofs.YtgchgdkpipanjaaGreatDoor

namespace Go.Proofs.YtgchgdkpipanjaaGreatDoor
open Go Go.RowKit

/-- faulted: an error's number and place. -/
def faultB3 (er : Er) (c a : Int) : Bool := (er.code : Int) == c && ((er.code : Int) == 0 || er.at?.getD (-1) == a)

theorem faulted3_any {E : Nat → Addr} {w : World} {v : Value} {er : Er} (hE : Env E w) (hv : IsErr E w v er) (c a : Int) : Calls Tryz.prog 28 #[v, .agg #[.int .i64 c, .int .i64 a]] w fun e w' =>
    e = .returned (.bool (faultB3 er c a)) ∧ Below w.heap.size w w' := by
  have hc := Lib.hid (code_any (hE.ext ((Below.refl _ _).alloc (Nat.le_refl _) (.cells #[.int .i64 c, .int .i64 a] 59))) (hv.ext ((Below.refl _ _).alloc (Nat.le_refl _) _)))
  have hfin : faultB3 er c a = ((er.code : Int) == c && ((er.code : Int) == 0 || er.at?.getD (-1) == a)) := rfl
  have HF := Lib.hid hfin; clear hfin hE hv
  generalize hk : (er.code : Int) = k at hc HF
  generalize ha : er.at?.getD (-1) = b at hc HF
  clear hk ha
  generalize faultB3 er c a = r at HF ⊢
  cases h1 : (k == c)
  all_goals cases h2 : (k == 0)
  all_goals
    go_enter Tryz.func28, Tryz.ntmps28
    go_wp2_with fail
    refine hc.out.mono ?_
    rintro e w' ⟨rfl, hb⟩
    have hb' : Below w.heap.size w w' := ((Below.refl _ _).alloc (Nat.le_refl _) _).trans (hb.mono (by simp))
    have c0 : w'.cell? ⟨w.heap.size, 0, none⟩ = some (.int .i64 c) := by rw [hb.cell (p := ⟨w.heap.size, 0, none⟩) (by simp)]; simp
    have c1 : w'.cell? ⟨w.heap.size, 1, none⟩ = some (.int .i64 a) := by rw [hb.cell (p := ⟨w.heap.size, 1, none⟩) (by simp)]; simp
    clear hb
    go_wp2_with fail
    go_ret
    exact ⟨by rw [HF.out, h1]; simp [h2], hb'⟩
end Go.Proofs.YtgchgdkpipanjaaGreatDoor

namespace Go.Proofs.YtgchgdkpipanjaaGreatDoor
open Go Go.RowKit Go.Maps

theorem hr_held (cs : Array Value) (fz : Nat × Nat) : ¬ HeldRow (.cells cs 125 fz) := by
  rintro (⟨_, _, h⟩ | ⟨_, _, h⟩)
  · cases h
  · injection h with _ h _; exact absurd h (by decide)
theorem hr_tree (cs : Array Value) : ¬ HeldRow (.cells cs 132 (0, 0)) := by
  rintro (⟨_, _, h⟩ | ⟨_, _, h⟩)
  · cases h
  · injection h with _ h _; exact absurd h (by decide)
theorem rh_map (es : Array MapEntry) (c : Nat) : ¬ RHeldRow (.map es c) := fun ⟨_, _, h⟩ => by cases h
theorem rh_held (cs : Array Value) (fz : Nat × Nat) : ¬ RHeldRow (.cells cs 104 fz) := fun ⟨_, _, h⟩ => by injection h with _ h _; exact absurd h (by decide)
theorem rh_int (cs : Array Value) : ¬ RHeldRow (.cells cs 3 (0, 0)) := fun ⟨_, _, h⟩ => by injection h with _ h _; exact absurd h (by decide)
theorem rh_file (cs : Array Value) : ¬ RHeldRow (.cells cs 109 (0, 0)) := fun ⟨_, _, h⟩ => by injection h with _ h _; exact absurd h (by decide)
theorem IsErr.fine {E : Nat → Addr} {w : World} {v : Value} {er : Er} (h : IsErr E w v er) (h0 : er.code = 0) (w' : World) : IsErr E w' v er := by
  rcases h with h | ⟨k, _, e, _⟩ | ⟨k, a, b, _, e, _⟩
  · exact .inl h
  · rw [e] at h0; cases h0
  · rw [e] at h0; cases h0

theorem right_arg3 {l : List FileB} (h : ShortT l) : l.length ≤ 10000 ∧ ∀ f ∈ l, SmallF f := ⟨by have := h.1; omega, fun f hf => by have := h.2 f hf; exact ⟨by omega, by omega⟩⟩

set_option maxHeartbeats 4000000 in
set_option maxRecDepth 100000 in
theorem hold3_any {E : Nat → Addr} {W0 : World} (B b D m : Nat) (va : Value) (L : List (Value × List FileB)) (hd0 : HeldB) (w : World) (hi : HeldIs w B b hd0) (hr : RHeldIs W0 w D m hd0) (hva : ZRow W0 va L) (hW : Below W0.heap.size W0 w) (hWB : W0.heap.size ≤ B) (hBD : B ≤ D) (hD : D ≤ w.heap.size) (hL : L.length ≤ 8) (hS : ∀ x ∈ L, ShortT x.2) (hE : KEnv E W0) :
    Calls Tryz.prog 37 #[.pointer (some ⟨b, 0, none⟩), .pointer (some ⟨m, 0, none⟩), va] w fun e w' => e = .returned (.bool true) ∧ ∃ hd, Hid (HeldIs w' B b hd) ∧ Hid (RHeldIs W0 w' D m hd) ∧ Below B w w' := by
  have HA := Lib.hid hva
  have HW := Lib.hid hW
  have HE := Lib.hid hE
  have HSH := Lib.hid hS
  have HI0 := Lib.hid hi
  have HR0 := Lib.hid hr
  obtain ⟨ao, ac, rfl⟩ := hva.len
  have hBw : B ≤ w.heap.size := Nat.le_trans hBD hD
  clear hva hW hE hS hi hr
  go_enter Tryz.func37, Tryz.ntmps37
  go_wp2_with fail
  go_loopw [7] (fun i wr => ∃ (k : Nat) (hd : HeldB), k ≤ L.length ∧ i = .int .i64 k ∧ Hid (HeldIs wr B b hd) ∧ Hid (RHeldIs W0 wr D m hd) ∧ D ≤ wr.heap.size ∧ Hid (Below B w wr)) (fun i _ => L.length - (intOf i).toNat)
  case atStart => exact ⟨0, hd0, Nat.zero_le _, rfl, HI0, HR0, hD, Below.refl _ _⟩
  case round =>
    clear HI0 HR0
    obtain ⟨k, hd, hk, rfl, HI, HR, hDr, Bq⟩ := hrel
    have Bw := Lib.hid (HW.out.trans (Bq.out.mono hWB))
    have hBr : B ≤ wr.heap.size := Nat.le_trans hBD hDr
    by_cases hlt : k < L.length
    · obtain ⟨b', off, rfl, hbl, hcell, hfa⟩ := HA.out.at hlt
      have hss := HSH.out L[k] (List.getElem_mem hlt)
      have HC : Hid (∀ W, Below W0.heap.size W0 W → W.cell? ⟨b', off + k, none⟩ = some L[k].1) := fun W hW => (hW.cell (p := ⟨b', off + k, none⟩) hbl).trans hcell
      have HFA := Lib.hid hfa
      clear hcell hfa
      obtain ⟨x, hx⟩ : ∃ x, L[k] = x := ⟨_, rfl⟩
      rw [hx] at HC HFA hss
      clear hx
      obtain ⟨xv, xl⟩ := x
      dsimp only at HFA hss HC
      have hra := right_arg3 hss
      have HS := Lib.hid hra.2
      have hl31 := hss.1
      obtain ⟨xo, xc, rfl, _⟩ := HFA.out.1
      have d1 := HC.out wr Bw.out
      have C := Lib.hid (ownFiles_any (.slice xo xl.length xc) xl wr (by have := hss.1; omega) (HFA.out.ext Bw.out))
      clear hra hss
      go_wp2_with fail
      refine C.out.mono ?_
      clear C d1
      rintro e w5 ⟨⟨ov, rfl, HO⟩, hb5⟩
      have C := Lib.hid (heldPut_any (E := E) B b hd ov xl w5 (fun w' hk => FOwn.arg (hk.owns HO.out heldRow_files)) (by omega) HS.out (HI.out.below hb5) (Nat.le_trans hBr hb5.size) (HE.out.ext (Bw.out.trans (hb5.mono Bw.out.size))))
      go_wp2_with fail
      refine C.out.mono ?_
      clear C
      rintro e w6 ⟨⟨ev, rfl, HER⟩, HI6, K6, _⟩
      have HI6 := Lib.hid HI6
      have HHR6 := Lib.hid ((HR.out.below hb5).keeps K6.toKeeps hr_held hr_tree heldRow_files)
      have B6 := Lib.hid ((Bq.out.trans (hb5.mono hBr)).trans K6.below)
      have Bw6 := Lib.hid (HW.out.trans (B6.out.mono hWB))
      have hD6 : D ≤ w6.heap.size := Nat.le_trans hDr (Nat.le_trans hb5.size K6.below.size)
      have d6 := HC.out w6 Bw6.out
      have hlen : hd.trees.length ≤ 40 := by have h1 := HI.out.1.few; have h2 := HI.out.1.len; omega
      have C := Lib.hid (refHPut_any (W0 := W0) D m hd (.slice xo xl.length xc) xl w6 Bw6.out (.inl HFA.out) (by omega) HS.out HHR6.out (by omega) hD6)
      obtain ⟨r, hr⟩ : ∃ r, putH hd xl = r := ⟨_, rfl⟩
      rw [hr] at HER HI6 C ⊢
      have HER := Lib.hid HER
      clear hr HHR6 HO HI HR K6 hb5
      go_wp2_with fail
      refine C.out.mono ?_
      clear C d6
      rintro e w7 ⟨rfl, HR7, K7, HB7⟩
      have HR7 := Lib.hid HR7
      have HI7 := Lib.hid (HI6.out.keeps K7 rh_map rh_held rh_int rh_file)
      have B7 := Lib.hid (B6.out.trans (K7.below.mono hBD))
      have Bw7 := Lib.hid (HW.out.trans (B7.out.mono hWB))
      have hD7 : D ≤ w7.heap.size := Nat.le_trans hD6 K7.below.size
      have HER7 : Hid (IsErr E w7 ev r.1) := by
        show IsErr _ _ _ _
        by_cases h0 : r.1.code = 0
        · exact HER.out.fine h0 _
        · exact HER.out.ext (HB7 h0)
      obtain ⟨w8, hw8⟩ : ∃ w8, w7.alloc (.cells #[.int .i64 r.1.code, .int .i64 (r.1.at?.getD (-1))] 59) = w8 := ⟨_, rfl⟩
      obtain ⟨q, hq⟩ : ∃ q, w7.heap.size = q := ⟨_, rfl⟩
      have hal : Below w7.heap.size w7 w8 := by rw [← hw8]; exact (Below.refl _ _).alloc (Nat.le_refl _) _
      have FX := Lib.hid (show FaultAt w8 q r.1.code (r.1.at?.getD (-1)) by rw [← hw8, ← hq]; exact FaultAt.new w7 _ _)
      have Bw8 := Lib.hid (Bw7.out.trans (hal.mono Bw7.out.size))
      have C := Lib.hid (faulted3_any (E := E) (HE.out.ext Bw8.out).1.1 (HER7.out.ext hal) (r.1.code : Int) (r.1.at?.getD (-1)))
      rw [show faultB3 r.1 (r.1.code : Int) (r.1.at?.getD (-1)) = true by simp [faultB3]] at C
      have HI8 := Lib.hid (HI7.out.below hal)
      have HR8 := Lib.hid (HR7.out.below hal)
      have B8 := Lib.hid (B7.out.trans (hal.mono (Nat.le_trans hBw B7.out.size)))
      have hD8 : D ≤ w8.heap.size := Nat.le_trans hD7 hal.size
      unfold erA at ⊢
      have HW8 := Lib.hid hw8
      have HQ := Lib.hid hq
      obtain ⟨x0, x1, _, _⟩ := FX.out.cells
      obtain ⟨fc, hfc⟩ : ∃ fc : Int, (r.1.code : Int) = fc := ⟨_, rfl⟩
      obtain ⟨fa, hfa2⟩ : ∃ fa : Int, r.1.at?.getD (-1) = fa := ⟨_, rfl⟩
      rw [hfc] at x0
      rw [hfa2] at x1
      rw [hfc, hfa2] at C HW8 ⊢
      obtain ⟨z, hz⟩ : ∃ z : Int, r.2.1 = z := ⟨_, rfl⟩
      rw [hz]
      have hzz : (z != z) = false := by simp
      clear hw8 hq hal hfc hfa2 hz HER HER7 HI6 HI7 HR7 K7 HB7
      go_wp2_with fail
      rw [HW8.out, HQ.out]
      go_wp2_with fail
      refine C.out.mono ?_
      clear C
      rintro e w9 ⟨rfl, hb9⟩
      have HI9 := Lib.hid (HI8.out.below hb9)
      have HR9 := Lib.hid (HR8.out.below hb9)
      have B9 := Lib.hid (B8.out.trans (hb9.mono (Nat.le_trans hBw B8.out.size)))
      have hD9 : D ≤ w9.heap.size := Nat.le_trans hD8 hb9.size
      clear HI8 HR8 x0 x1
      go_wp2_with fail
      go_roundw
      case rel => exact ⟨k + 1, r.2.2, by omega, by go_num, HI9, HR9, hD9, B9⟩
      case measure => simp [intOf]; omega
    · obtain rfl : k = L.length := by omega
      go_wp2_with fail
      go_ret
      exact ⟨rfl, hd, HI, HR, Bq.out⟩
end Go.Proofs.YtgchgdkpipanjaaGreatDoor

namespace Go.Proofs.YtgchgdkpipanjaaGreatDoor
open Go Go.RowKit

/-- coded: an error's number, without a place. -/
def codedB3 (er : Er) (c : Int) : Bool := (er.code : Int) == c && er.at?.getD (-1) == -1

theorem codedThree_any {E : Nat → Addr} {w : World} {v : Value} {er : Er} (hE : Env E w) (hv : IsErr E w v er) (c : Int) : Calls Tryz.prog 42 #[v, .int .i64 c] w fun e w' =>
    e = .returned (.bool (codedB3 er c)) ∧ Below w.heap.size w w' := by
  have hc := Lib.hid (code_any hE hv)
  have hfin : codedB3 er c = ((er.code : Int) == c && er.at?.getD (-1) == -1) := rfl
  have HF := Lib.hid hfin; clear hfin hE hv
  generalize hk : (er.code : Int) = k at hc HF
  generalize ha : er.at?.getD (-1) = a at hc HF
  clear hk ha
  generalize codedB3 er c = r at HF ⊢
  cases h1 : (k == c)
  · go_enter Tryz.func42, Tryz.ntmps42
    go_wp2_with fail
    refine hc.out.mono ?_
    rintro e w' ⟨rfl, hb⟩
    go_wp2_with fail
    go_ret
    exact ⟨by rw [HF.out, h1]; rfl, hb⟩
  · go_enter Tryz.func42, Tryz.ntmps42
    go_wp2_with fail
    refine hc.out.mono ?_
    rintro e w' ⟨rfl, hb⟩
    go_wp2_with fail
    go_ret
    exact ⟨by rw [HF.out, h1]; simp, hb⟩

end Go.Proofs.YtgchgdkpipanjaaGreatDoor
