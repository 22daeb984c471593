/- chandlerylaw3.TapeActs: the walk. -/
import Derived.Test.YtpafddeakanopaaDoorTapeMore
import Derived.Test.YtpafddeakanopaaDoorTapeCutsLaw
import Derived.Deep.RegionWith
namespace Go.Proofs.YtpafddeakanopaaDoor
open Go Go.RowKit

/-- What a statement's input names: kind, text, number. -/
abbrev WriteB := ByteArray × ByteArray × Int
def WRow (w : World) (v : Value) (l : List WriteB) : Prop :=
  ∃ ao cap, v = .slice ao l.length cap ∧ l.length ≤ cap ∧ cap ≤ maxLen ∧ (∀ i, i < l.length → ∃ b off, ao = some ⟨b, off, none⟩ ∧ b < w.heap.size ∧
    ∀ k, (hk : k < l.length) → w.cell? ⟨b, off + k * 3, none⟩ = some (.string l[k].1) ∧ w.cell? ⟨b, off + k * 3 + 1, none⟩ = some (.string l[k].2.1) ∧ w.cell? ⟨b, off + k * 3 + 2, none⟩ = some (.int .i64 l[k].2.2) ∧ -9223372036854775808 ≤ l[k].2.2 ∧ l[k].2.2 ≤ 9223372036854775807)

/-- The law's environment. -/
def ActsEnv (E : Nat → Addr) (w : World) : Prop := Env E w ∧ TEnv w
theorem ActsEnv.ext {E : Nat → Addr} {w w' : World} (h : ActsEnv E w) (hb : Below w.heap.size w w') : ActsEnv E w' := ⟨h.1.ext hb, h.2.ext hb⟩

theorem wrote_le {bs r bs' : List UInt8} {off off' ok : Bool} {c c' : Int} (hw : WroteL bs off c r = (bs', off', c', ok)) (hc : -1 ≤ c ∧ c ≤ 9223372036854775807) : bs'.length ≤ bs.length + r.length ∧ -1 ≤ c' ∧ c' ≤ 9223372036854775807 := by
  unfold WroteL at hw
  split at hw
  · simp only [Prod.mk.injEq] at hw
    obtain ⟨rfl, rfl, rfl, rfl⟩ := hw
    exact ⟨by omega, hc.1, hc.2⟩
  · split at hw
    · simp only [Prod.mk.injEq] at hw
      obtain ⟨rfl, rfl, rfl, rfl⟩ := hw
      exact ⟨by rw [List.length_append, List.length_take]; omega, hc.1, hc.2⟩
    · rename_i h1
      simp only [Prod.mk.injEq] at hw
      obtain ⟨rfl, rfl, h3, rfl⟩ := hw
      refine ⟨by rw [List.length_append]; omega, ?_, ?_⟩
      · rw [← h3]; split <;> omega
      · rw [← h3]; split <;> omega
theorem codedNil {E : Nat → Addr} {w : World} (hE : Env E w) : Calls Tryd.prog 24 #[.nilIface, .int .i64 0] w fun e w' => e = .returned (.bool true) ∧ Below w.heap.size w w' := errCoded3 (c := 0) hE (by decide)
theorem codedBound {E : Nat → Addr} {w : World} (hE : Env E w) : Calls Tryd.prog 24 #[sentV E 1, .int .i64 2] w fun e w' => e = .returned (.bool true) ∧ Below w.heap.size w w' := errCoded3 (c := 2) hE (by decide)
theorem codedOff {E : Nat → Addr} {w : World} (hE : Env E w) : Calls Tryd.prog 24 #[sentV E 12, .int .i64 13] w fun e w' => e = .returned (.bool true) ∧ Below w.heap.size w w' := errCoded3 (c := 13) hE (by decide)

theorem setCut_of {off : Bool} {c n r1 : Int} {off' : Bool} {c' : Int} (h : setCutR off c n = (r1, off', c')) (hc : -1 ≤ c ∧ c ≤ 9223372036854775807) (hn : n ≤ 9223372036854775807) : (r1 = 0 ∨ r1 = 2 ∨ r1 = 13) ∧ -1 ≤ c' ∧ c' ≤ 9223372036854775807 := by
  unfold setCutR at h
  split at h
  · simp only [Prod.mk.injEq] at h
    obtain ⟨rfl, rfl, rfl⟩ := h
    exact ⟨by simp, hc.1, hc.2⟩
  · split at h
    · simp only [Prod.mk.injEq] at h
      obtain ⟨rfl, rfl, rfl⟩ := h
      exact ⟨by simp, hc.1, hc.2⟩
    · simp only [Prod.mk.injEq] at h
      obtain ⟨rfl, rfl, rfl⟩ := h
      exact ⟨by simp, by omega, hn⟩
theorem But.owns {w w' : World} {m base : Nat} {rb : ByteArray} {roff : Bool} {rc : Int} {e : TypeId} {size n : Nat} {v : Value} {xs : List Value} (h : But m w w') (hm : RTapeIs w m rb roff rc) (hw : w.ownsRow base e size v n xs) (h1 : e ≠ 51) : w'.ownsRow base e size v n xs := by
  refine ⟨hw.1, ?_⟩
  rcases hw.2 with h0 | ⟨g, cap, cur, hv, hb, hg, hr⟩
  · exact .inl h0
  · refine .inr ⟨g, cap, cur, hv, hb, ?_, hr⟩
    rw [h.block g (Array.getElem?_eq_some_iff.1 hg).1 (fun e => ?_)]
    · exact hg
    · subst e
      unfold RTapeIs at hm
      rw [hm] at hg
      injection hg with hg
      injection hg with _ h3 _
      exact h1 h3.symm
theorem recsL_tape_le (l : List UInt8) : (recsL (tapeL l)).length ≤ l.length := by
  have := congrArg List.length (tapeL_prefix l)
  rw [List.length_take] at this
  omega

set_option maxHeartbeats 4000000 in
set_option maxRecDepth 100000 in
theorem tapeActs_walk {E : Nat → Addr} {w : World} (hE : ActsEnv E w) (hT : TapeEnv w) (s : ByteArray) (v : Value) (l : List WriteB) (hv : WRow w v l) :
    Calls Tryd.prog 5 #[.string s, v] w fun e w' => e = .returned (.bool true) ∧ Below w.heap.size w w' := by
  have HE := Lib.hid hE
  have C := Lib.hid (taped_any w hT)
  obtain ⟨ao, cap, rfl, h1, h2, H3⟩ := hv
  have HM := Lib.hid H3
  clear H3 hE hT
  go_enter Tryd.func5, Tryd.ntmps5
  go_wp2_with fail
  refine C.out.mono ?_
  clear C
  rintro e w1 ⟨rfl, hb1⟩
  by_cases hs : s.size ≤ 2000
  · by_cases hl : l.length ≤ 50
    · have C := Lib.hid (newDisk_any s w1 (by omega))
      go_wp2_with fail
      refine C.out.mono ?_
      clear C
      rintro e w2 ⟨b, rfl, HD2, hb2⟩
      have hBl : w.heap.size ≤ w1.heap.size := hb1.size
      have hHD2 := Lib.hid HD2
      have hB2 := hb2.size
      clear HD2
      go_wp2_with fail
      have hal : Below w2.heap.size w2 (w2.alloc (.cells #[.string s, .bool false, .int .i64 (-1)] 51)) := (Below.refl _ _).alloc (Nat.le_refl _) _
      obtain ⟨m, hm⟩ : ∃ m, w2.heap.size = m := ⟨_, rfl⟩
      have hR0 : RTapeIs (w2.alloc (.cells #[.string s, .bool false, .int .i64 (-1)] 51)) m s false (-1) := by
        subst hm; exact heap_alloc_new _ _
      have hD0 := hHD2.out.below hal
      have hb3 := hb2.trans (hal.mono hB2)
      rw [hm] at hB2 ⊢
      have HF := Lib.hid (fun (W : World) (hW : Below w1.heap.size w1 W) => HE.out.ext (hb1.trans (hW.mono hBl)))
      clear hHD2 hal hb2
      generalize w2.alloc (.cells #[.string s, .bool false, .int .i64 (-1)] 51) = w3 at *
      go_loopw [9] (fun i wr => ∃ (k : Nat) (bs : List UInt8) (off : Bool) (c : Int) (rb : ByteArray), k ≤ l.length ∧ i = .int .i64 k ∧ Hid (bl rb = bs) ∧ bs.length ≤ 2000 + 212 * k ∧ -1 ≤ c ∧ c ≤ 9223372036854775807 ∧ Hid (DiskIs wr w1.heap.size b bs off c) ∧ Hid (RTapeIs wr m rb off c) ∧ Below w1.heap.size w1 wr) (fun i _ => l.length - (intOf i).toNat)
      case atStart => exact ⟨0, bl s, false, -1, s, Nat.zero_le _, rfl, rfl, by rw [bl_length]; omega, by omega, by omega, hD0, hR0, hb3⟩
      case round =>
        obtain ⟨k, bs, off, c, rb, hk, rfl, HBL, hbs, hc1, hc2, HD, HR, hb⟩ := hrel
        by_cases hlt : k < l.length
        · obtain ⟨ab, aoff, rfl, habl, hcell⟩ := HM.out k hlt
          obtain ⟨q0, q1, q2, q3, q4⟩ := hcell k hlt
          have hbw := hb1.trans (hb.mono hBl)
          rw [← hbw.cell (p := ⟨ab, aoff + k * 3, none⟩) habl] at q0
          rw [← hbw.cell (p := ⟨ab, aoff + k * 3 + 1, none⟩) habl] at q1
          rw [← hbw.cell (p := ⟨ab, aoff + k * 3 + 2, none⟩) habl] at q2
          clear hcell
          rcases hlk : l[k] with ⟨kd, x, n⟩
          rw [hlk] at q0 q1 q2 q3 q4
          clear hlk
          dsimp only at q0 q1 q2 q3 q4
          have hB4 : w1.heap.size ≤ wr.heap.size := hb.size
          obtain ⟨pa, hpa⟩ : ∃ pa, wr.heap.size = pa := ⟨_, rfl⟩
          obtain ⟨wa, hwa⟩ : ∃ wa, wr.alloc (.cells #[.string kd, .string x, .int .i64 n] 53) = wa := ⟨_, rfl⟩
          have hal : Below wr.heap.size wr wa := by rw [← hwa]; exact (Below.refl _ _).alloc (Nat.le_refl _) _
          have hA : wa.heap[pa]? = some (.cells #[.string kd, .string x, .int .i64 n] 53 (0, 0)) := by rw [← hwa, ← hpa]; exact heap_alloc_new _ _
          have HDa := Lib.hid (HD.out.below hal)
          have HRa := Lib.hid (HR.out.below hal)
          have hba := hb.trans (hal.mono hB4)
          have hend := hb1.trans (hba.mono hBl)
          have HPA := Lib.hid hpa
          have HWA := Lib.hid hwa
          have hBa : w1.heap.size ≤ wa.heap.size := hba.size
          have hpB : w1.heap.size ≤ pa := by omega
          have a0 : wa.cell? ⟨pa, 0, none⟩ = some (.string kd) := by rw [Lib.cell_of_heap hA]; rfl
          have a1 : wa.cell? ⟨pa, 1, none⟩ = some (.string x) := by rw [Lib.cell_of_heap hA]; rfl
          have a2 : wa.cell? ⟨pa, 2, none⟩ = some (.int .i64 n) := by rw [Lib.cell_of_heap hA]; rfl
          clear hpa hwa HD HR hal
          by_cases hx : x.size ≤ 200 ∨ x.size = 20001
          · obtain ⟨KA, hKA⟩ : ∃ KA : Bool, (kd.toList == [97, 112, 112, 101, 110, 100]) = KA := ⟨_, rfl⟩
            cases KA with
            | true =>
              by_cases hxs : x.size ≤ 200
              · have hxl : (bl x).length = x.size := bl_length x
                have hrs := recL_small (bl x) (by omega)
                have hdr : Below wa.heap.size wa wa.drew := below_drewN _ _ 1
                have hbd := hba.trans (hdr.mono hBa)
                have hv := (HF.out wa.drew hbd).1.err 12 (by decide)
                have hg : 1 < w1.heap.size := Lib.lt_of_cell ((HF.out w1 (Below.refl _ _)).1.err 12 (by decide))
                obtain ⟨bs', off', c', ok, hW⟩ : ∃ bs' off' c' ok, WroteL bs off c (recL (bl x)) = (bs', off', c', ok) := ⟨_, _, _, _, rfl⟩
                have C1 := append_any w1.heap.size b bs off c x (sentV E 12) wa.drew (HDa.out.below hdr) (by omega) (by omega) ⟨hc1, hc2⟩ (Nat.le_trans hBa hdr.size) (HF.out wa.drew hbd).2.2.1 hv hg
                rw [hW] at C1
                have C2 : ∀ W, Onto w1.heap.size wa.drew W → Calls Tryd.prog 25 #[.pointer (some ⟨m, 0, none⟩), .string x] W (RAppPost m (bs', off', c', ok) W) := by
                  intro W hO
                  have := refAppend_any m rb off c x W ((HRa.out.below hdr).onto hO) (by omega) (by rw [← bl_length, HBL.out]; omega) ⟨hc1, hc2⟩
                  rw [HBL.out, hW] at this
                  exact this
                have K5 : ∀ W, Onto w1.heap.size wa.drew W → W.cell? ⟨pa, 1, none⟩ = some (.string x) := by
                  intro W hO
                  have := hO.keep pa _ hA (by
                    rintro (⟨c2, fz, he⟩ | ⟨c2, fz, he⟩)
                    · injection he with _ h3 _; exact absurd h3 (by decide)
                    · injection he with _ h3 _; exact absurd h3 (by decide))
                  rw [Lib.cell_of_heap this]; rfl
                have HK5 := Lib.hid K5
                obtain ⟨W1, W2, W3⟩ := wrote_le hW ⟨hc1, hc2⟩
                unfold AppPost at C1
                unfold RAppPost at C2
                dsimp only at C1 C2
                have C3 : ∀ W, Below w1.heap.size w1 W → Calls Tryd.prog 24 #[if ok = true then .nilIface else sentV E 12, .int .i64 (if ok = true then 0 else 13)] W fun e w' => e = .returned (.bool true) ∧ Below W.heap.size W w' := by
                  intro W hBW
                  cases ok
                  · exact codedOff (HF.out W hBW).1
                  · exact codedNil (HF.out W hBW).1
                generalize (if ok = true then Value.nilIface else sentV E 12) = cv at C1 C3
                generalize (if ok = true then (0 : Int) else 13) = co at C2 C3
                have HC3 := Lib.hid C3
                clear C3
                have HC1 := Lib.hid C1
                have HC2 := Lib.hid C2
                have HA := Lib.hid hA
                clear K5
                clear C1 C2 hW hv hA
                go_wp2_with fail
                rw [HWA.out, HPA.out]
                go_region_with (first
                  | (go_at_call 19; refine HC1.out.mono ?_; rintro e w5 ⟨rfl, HD5, HO5⟩; have a5 := HK5.out w5 HO5; have hb5 := hbd.trans HO5.below)
                  | (go_at_call 25; refine (HC2.out w5 HO5).mono ?_; rintro e w6 ⟨rfl, ⟨rb2, HB6, HR6⟩, HO6⟩; have hb6 := hb5.trans (HO6.below hB2 hb5.size))
                  | (go_at_call 24; refine (HC3.out w6 hb6).mono ?_; rintro e w7 ⟨rfl, hb7⟩))
                all_goals
                  clear HC1 HC2 HK5 a0 a1 a2
                  have hD7 := (HD5.but (RTapeIs.onto (HRa.out.below hdr) HO5) HO6).below hb7
                  have hR7 := HR6.below hb7
                  have hb7' := hb6.trans (hb7.mono hb6.size)
                  have hrb : (⟨bs'.toArray⟩ : ByteArray) = rb2 := by rw [← HB6.out]; exact bl_inj (bytesOf _)
                  have HQ1 : Hid (∀ n, Calls Tryd.prog 23 #[.pointer (some ⟨b, 0, none⟩)] (w7.drewN n) fun e w' => e = .returned (.string rb2) ∧ w' = w7.drewN n) := by
                    intro n
                    refine (diskBytes_any _ _ _ _ _ (w7.drewN n) (by exact hD7)).mono ?_
                    rintro e w' ⟨rfl, rfl⟩
                    exact ⟨by rw [hrb], rfl⟩
                  have HQ2 : Hid (∀ n, Calls Tryd.prog 21 #[.pointer (some ⟨b, 0, none⟩)] (w7.drewN n) fun e w' => e = .returned (.bool (!off')) ∧ w' = w7.drewN n) := by
                    intro n
                    refine (diskPower_any _ _ _ _ _ (w7.drewN n) (by exact hD7)).mono ?_
                    rintro e w' ⟨rfl, rfl⟩
                    exact ⟨rfl, rfl⟩
                  have r0 : w7.cell? ⟨m, 0, none⟩ = some (.string rb2) := by rw [Lib.cell_of_heap hR7]; rfl
                  have r1 : w7.cell? ⟨m, 1, none⟩ = some (.bool off') := by rw [Lib.cell_of_heap hR7]; rfl
                  have hqq : (rb2.toList == rb2.toList) = true := beq_self_eq_true _
                  have hqo : ((!off') == off') = false := by cases off' <;> rfl
                  have hH : Hid (bl rb2 = bs') := HB6
                  clear HD5 HO5 HO6 HR6 hb5 hb6 hb7 a5 HB6 hrb
                  go_wp2_with fail
                  go_quiet (first | exact Calls.quiet_of_same (HQ1.out _) | exact Calls.quiet_of_same (HQ2.out _))
                  go_wp2_with fail
                  go_roundw
                  case rel => exact ⟨k + 1, bs', off', c', rb2, by omega, by go_num, hH, by omega, W2, W3, hD7, hR7, hb7'.trans ((below_drewN _ _ _).mono hb7'.size)⟩
                  case measure => simp [intOf]; omega
              · have hdr : Below wa.heap.size wa wa.drew := below_drewN _ _ 1
                have hbd := hba.trans (hdr.mono hBa)
                have hv2 := (HF.out wa.drew hbd).1.err 1 (by decide)
                have hx2 : 20000 < x.size := by omega
                have HC1 := Lib.hid (bound_any b x (sentV E 1) wa.drew hx2 hv2)
                have HC2 := Lib.hid (refBound_any m x wa.drew hx2)
                have HC3 := Lib.hid (codedBound (HF.out wa.drew hbd).1)
                have hA := Lib.hid hA
                clear hv2
                go_wp2_with fail
                rw [HWA.out, HPA.out]
                go_region_with (first
                  | (go_at_call 19; refine HC1.out.mono ?_; rintro e w5 ⟨rfl, rfl⟩)
                  | (go_at_call 25; refine HC2.out.mono ?_; rintro e w6 ⟨rfl, rfl⟩)
                  | (go_at_call 24; refine HC3.out.mono ?_; rintro e w7 ⟨rfl, hb7⟩))
                all_goals
                  have hD7 := (HDa.out.below hdr).below hb7
                  have hR7 := (HRa.out.below hdr).below hb7
                  have hb7' := hbd.trans (hb7.mono hbd.size)
                  have hrb : (⟨bs.toArray⟩ : ByteArray) = rb := by rw [← HBL.out]; exact bl_inj (bytesOf _)
                  have HQ1 : Hid (∀ n, Calls Tryd.prog 23 #[.pointer (some ⟨b, 0, none⟩)] (w7.drewN n) fun e w' => e = .returned (.string rb) ∧ w' = w7.drewN n) := by
                    intro n
                    refine (diskBytes_any _ _ _ _ _ (w7.drewN n) (by exact hD7)).mono ?_
                    rintro e w' ⟨rfl, rfl⟩
                    exact ⟨by rw [hrb], rfl⟩
                  have HQ2 : Hid (∀ n, Calls Tryd.prog 21 #[.pointer (some ⟨b, 0, none⟩)] (w7.drewN n) fun e w' => e = .returned (.bool (!off)) ∧ w' = w7.drewN n) := by
                    intro n
                    refine (diskPower_any _ _ _ _ _ (w7.drewN n) (by exact hD7)).mono ?_
                    rintro e w' ⟨rfl, rfl⟩
                    exact ⟨rfl, rfl⟩
                  have r0 : w7.cell? ⟨m, 0, none⟩ = some (.string rb) := by rw [Lib.cell_of_heap hR7]; rfl
                  have r1 : w7.cell? ⟨m, 1, none⟩ = some (.bool off) := by rw [Lib.cell_of_heap hR7]; rfl
                  have hqq : (rb.toList == rb.toList) = true := beq_self_eq_true _
                  have hqo : ((!off) == off) = false := by cases off <;> rfl
                  clear HC1 HC2 HC3 a0 a1 a2 hrb hb7
                  go_wp2_with fail
                  go_quiet (first | exact Calls.quiet_of_same (HQ1.out _) | exact Calls.quiet_of_same (HQ2.out _))
                  go_wp2_with fail
                  go_roundw
                  case rel => exact ⟨k + 1, bs, off, c, rb, by omega, by go_num, HBL, by omega, hc1, hc2, hD7, hR7, hb7'.trans ((below_drewN _ _ _).mono hb7'.size)⟩
                  case measure => simp [intOf]; omega
            | false =>
              obtain ⟨KC, hKC⟩ : ∃ KC : Bool, (kd.toList == [99, 117, 116]) = KC := ⟨_, rfl⟩
              cases KC with
              | true =>
                have hdr : Below wa.heap.size wa wa.drew := below_drewN _ _ 1
                have hbd := hba.trans (hdr.mono hBa)
                have v2 := (HF.out wa.drew hbd).1.err 1 (by decide)
                have v13 := (HF.out wa.drew hbd).1.err 12 (by decide)
                obtain ⟨r1, off', c', hr⟩ : ∃ r1 off' c', setCutR off c n = (r1, off', c') := ⟨_, _, _, rfl⟩
                have hcs := setCut_of hr ⟨hc1, hc2⟩ q4
                have C1 := diskCutAll_any w1.heap.size b bs off c n (sentV E 1) (sentV E 12) wa.drew (HDa.out.below hdr) v2 v13
                rw [hr] at C1
                have C2 : ∀ W, Onto w1.heap.size wa.drew W → Calls Tryd.prog 26 #[.pointer (some ⟨m, 0, none⟩), .int .i64 n] W (RPost m rb (r1, off', c') W) := by
                  intro W hO
                  have := refSetCut_any m rb off c n W ((HRa.out.below hdr).onto hO)
                  rw [hr] at this
                  exact this
                have K5 : ∀ W, Onto w1.heap.size wa.drew W → W.cell? ⟨pa, 2, none⟩ = some (.int .i64 n) := by
                  intro W hO
                  have := hO.keep pa _ hA (by
                    rintro (⟨c2, fz, he⟩ | ⟨c2, fz, he⟩)
                    · injection he with _ h3 _; exact absurd h3 (by decide)
                    · injection he with _ h3 _; exact absurd h3 (by decide))
                  rw [Lib.cell_of_heap this]; rfl
                have HK5 := Lib.hid K5
                unfold CutPostT at C1
                unfold RPost at C2
                dsimp only at C1 C2
                have C3 : ∀ W, Below w1.heap.size w1 W → Calls Tryd.prog 24 #[if r1 = 0 then .nilIface else if r1 = 2 then sentV E 1 else sentV E 12, .int .i64 r1] W fun e w' => e = .returned (.bool true) ∧ Below W.heap.size W w' := by
                  intro W hW
                  rcases hcs.1 with rfl | rfl | rfl
                  · exact codedNil (HF.out W hW).1
                  · exact codedBound (HF.out W hW).1
                  · exact codedOff (HF.out W hW).1
                generalize (if r1 = 0 then Value.nilIface else if r1 = 2 then sentV E 1 else sentV E 12) = cv at C1 C3
                obtain ⟨_, W2, W3⟩ := hcs
                have HC3 := Lib.hid C3
                clear C3
                have HC1 := Lib.hid C1
                have HC2 := Lib.hid C2
                have HA := Lib.hid hA
                have hrb : (⟨bs.toArray⟩ : ByteArray) = rb := by rw [← HBL.out]; exact bl_inj (bytesOf _)
                clear K5 C1 C2 hr hA v2 v13
                go_wp2_with fail
                all_goals
                  rw [HWA.out, HPA.out]
                  go_region_with (first
                    | (go_at_call 18; refine HC1.out.mono ?_; rintro e w5 ⟨rfl, HD5, HO5⟩; have a5 := HK5.out w5 HO5; have hb5 := hbd.trans HO5.below)
                    | (go_at_call 26; refine (HC2.out w5 HO5).mono ?_; rintro e w6 ⟨rfl, HR6, HO6⟩; have hb6 := hb5.trans (HO6.below hB2 hb5.size))
                    | (go_at_call 24; refine (HC3.out w6 hb6).mono ?_; rintro e w7 ⟨rfl, hb7⟩))
                  all_goals
                    have hD7 := (HD5.but (RTapeIs.onto (HRa.out.below hdr) HO5) HO6).below hb7
                    have hR7 := HR6.below hb7
                    have hb7' := hb6.trans (hb7.mono hb6.size)
                    have HQ1 : Hid (∀ n, Calls Tryd.prog 23 #[.pointer (some ⟨b, 0, none⟩)] (w7.drewN n) fun e w' => e = .returned (.string rb) ∧ w' = w7.drewN n) := by
                      intro n
                      refine (diskBytes_any _ _ _ _ _ (w7.drewN n) (by exact hD7)).mono ?_
                      rintro e w' ⟨rfl, rfl⟩
                      exact ⟨by rw [hrb], rfl⟩
                    have HQ2 : Hid (∀ n, Calls Tryd.prog 21 #[.pointer (some ⟨b, 0, none⟩)] (w7.drewN n) fun e w' => e = .returned (.bool (!off')) ∧ w' = w7.drewN n) := by
                      intro n
                      refine (diskPower_any _ _ _ _ _ (w7.drewN n) (by exact hD7)).mono ?_
                      rintro e w' ⟨rfl, rfl⟩
                      exact ⟨rfl, rfl⟩
                    have r0 : w7.cell? ⟨m, 0, none⟩ = some (.string rb) := by rw [Lib.cell_of_heap hR7]; rfl
                    have r1 : w7.cell? ⟨m, 1, none⟩ = some (.bool off') := by rw [Lib.cell_of_heap hR7]; rfl
                    have hqq : (rb.toList == rb.toList) = true := beq_self_eq_true _
                    have hqo : ((!off') == off') = false := by cases off' <;> rfl
                    clear HC1 HC2 HC3 HK5 a0 a1 a2 HD5 HO5 HO6 HR6 hb5 hb6 hb7 a5 hrb
                    go_wp2_with fail
                    go_quiet (first | exact Calls.quiet_of_same (HQ1.out _) | exact Calls.quiet_of_same (HQ2.out _))
                    go_wp2_with fail
                    go_roundw
                    case rel => exact ⟨k + 1, bs, off', c', rb, by omega, by go_num, HBL, by omega, W2, W3, hD7, hR7, hb7'.trans ((below_drewN _ _ _).mono hb7'.size)⟩
                    case measure => simp [intOf]; omega
              | false =>
                obtain ⟨KO, hKO⟩ : ∃ KO : Bool, (kd.toList == [111, 110]) = KO := ⟨_, rfl⟩
                cases KO with
                | true =>
                  have C := Lib.hid (diskOn_any w1.heap.size b bs off c wa HDa.out)
                  have hrb : (⟨bs.toArray⟩ : ByteArray) = rb := by rw [← HBL.out]; exact bl_inj (bytesOf _)
                  go_wp2_with fail
                  all_goals
                    rw [HWA.out]
                    refine C.out.mono ?_
                    clear C
                    rintro e w5 ⟨rfl, HD5, HO5⟩
                    have hb5 := hba.trans HO5.below
                    have hR5 : RTapeIs w5 m rb off c := RTapeIs.onto HRa.out HO5
                    have hR5' := hR5
                    unfold RTapeIs at hR5
                    have f1 : w5.frozen? ⟨m, 1, none⟩ = false := Lib.frozen_of_heap hR5 1
                    have g1 : w5.cell? ⟨m, 1, none⟩ = some (.bool off) := by rw [Lib.cell_of_heap hR5]; rfl
                    obtain ⟨p1, p2⟩ := rtape_put hR5 1 (.bool false)
                    have f2 : (w5.setCell ⟨m, 1, none⟩ (.bool false)).frozen? ⟨m, 2, none⟩ = false := Lib.frozen_of_heap p1 2
                    have g2 : (w5.setCell ⟨m, 1, none⟩ (.bool false)).cell? ⟨m, 2, none⟩ = some (.int .i64 c) := by rw [Lib.cell_of_heap p1]; rfl
                    obtain ⟨p3, p4⟩ := rtape_put p1 2 (.int .i64 (-1))
                    have hO6 := p2.trans p4
                    have hD7 := HD5.but hR5' hO6
                    have hR7 : RTapeIs _ m rb false (-1) := p3
                    have hb7' := hb5.trans (hO6.below hB2 hb5.size)
                    clear HD5 HO5 hR5 hR5' p1 p2 p3 p4 hO6 hb5 a0 a1 a2
                    go_wp2_with fail
                    generalize (w5.setCell ⟨m, 1, none⟩ (.bool false)).setCell ⟨m, 2, none⟩ (.int .i64 (-1)) = w7 at *
                    have HQ1 : Hid (∀ n, Calls Tryd.prog 23 #[.pointer (some ⟨b, 0, none⟩)] (w7.drewN n) fun e w' => e = .returned (.string rb) ∧ w' = w7.drewN n) := by
                      intro n
                      refine (diskBytes_any _ _ _ _ _ (w7.drewN n) (by exact hD7)).mono ?_
                      rintro e w' ⟨rfl, rfl⟩
                      exact ⟨by rw [hrb], rfl⟩
                    have HQ2 : Hid (∀ n, Calls Tryd.prog 21 #[.pointer (some ⟨b, 0, none⟩)] (w7.drewN n) fun e w' => e = .returned (.bool (!false)) ∧ w' = w7.drewN n) := by
                      intro n
                      refine (diskPower_any _ _ _ _ _ (w7.drewN n) (by exact hD7)).mono ?_
                      rintro e w' ⟨rfl, rfl⟩
                      exact ⟨rfl, rfl⟩
                    have r0 : w7.cell? ⟨m, 0, none⟩ = some (.string rb) := by rw [Lib.cell_of_heap hR7]; rfl
                    have r1 : w7.cell? ⟨m, 1, none⟩ = some (.bool false) := by rw [Lib.cell_of_heap hR7]; rfl
                    have hqq : (rb.toList == rb.toList) = true := beq_self_eq_true _
                    have hqo : ((!false) == false) = false := rfl
                    clear hrb f1 f2 g1 g2
                    go_wp2_with fail
                    go_quiet (first | exact Calls.quiet_of_same (HQ1.out _) | exact Calls.quiet_of_same (HQ2.out _))
                    go_wp2_with fail
                    go_roundw
                    case rel => exact ⟨k + 1, bs, false, (-1), rb, by omega, by go_num, HBL, by omega, (by omega), (by omega), hD7, hR7, hb7'.trans ((below_drewN _ _ _).mono hb7'.size)⟩
                    case measure => simp [intOf]; omega
                | false =>
                  have hbl : (bl rb).length = rb.size := bl_length rb
                  have hrl : rb.size = bs.length := by rw [← hbl, HBL.out]
                  have C := Lib.hid (recover_any w1.heap.size b bs off c wa HDa.out (by omega) hBa (fun W hW => (HF.out W (hba.trans hW)).2))
                  go_wp2_with fail
                  all_goals
                    rw [HWA.out]
                    refine C.out.mono ?_
                    clear C
                    rintro e w5 ⟨v5, zs, rfl, HZ, HZM, hzl, HD5, HO5⟩
                    have hb5 := hba.trans HO5.below
                    have hR5 : RTapeIs w5 m rb off c := RTapeIs.onto HRa.out HO5
                    have C := Lib.hid (refRecover_any m rb off c w5 hR5 (by omega))
                    go_wp2_with fail
                    refine C.out.mono ?_
                    clear C
                    rintro e w6 ⟨u6, ys, rfl, HY, HYM, hyl, ⟨rb2, HB6, HR6⟩, HO6⟩
                    have hZ6 := HO6.owns hR5 HZ.out (by decide)
                    have hb6 := hb5.trans (HO6.below hB2 hb5.size)
                    have hD6 := HD5.but hR5 HO6
                    rw [HBL.out] at HYM HB6
                    have HC := Lib.hid (sameTexts_same (w := w6) (Row.of_owns (enc := encStr) (fun _ => rfl) hZ6) HY.out (by rw [HZM.out, HYM.out]) (by omega))
                    have hrl2 := congrArg List.length HB6.out
                    rw [bl_length] at hrl2
                    have hlen2 := recsL_tape_le bs
                    clear HZ HZM HY HYM hZ6 HD5 HO5 HO6 hb5 hR5 a0 a1 a2
                    go_wp2_with fail
                    refine HC.out.mono ?_
                    clear HC
                    rintro e w7 ⟨rfl, hb7⟩
                    have hD7 := hD6.below hb7
                    have hR7 := HR6.below hb7
                    have hb7' := hb6.trans (hb7.mono hb6.size)
                    obtain ⟨bs', hbs'⟩ : ∃ bs', recsL (tapeL bs) = bs' := ⟨_, rfl⟩
                    rw [hbs'] at hD7 HB6 hrl2 hlen2
                    have hrb : (⟨bs'.toArray⟩ : ByteArray) = rb2 := by rw [← HB6.out]; exact bl_inj (bytesOf _)
                    have HQ1 : Hid (∀ n, Calls Tryd.prog 23 #[.pointer (some ⟨b, 0, none⟩)] (w7.drewN n) fun e w' => e = .returned (.string rb2) ∧ w' = w7.drewN n) := by
                      intro n
                      refine (diskBytes_any _ _ _ _ _ (w7.drewN n) (by exact hD7)).mono ?_
                      rintro e w' ⟨rfl, rfl⟩
                      exact ⟨by rw [hrb], rfl⟩
                    have HQ2 : Hid (∀ n, Calls Tryd.prog 21 #[.pointer (some ⟨b, 0, none⟩)] (w7.drewN n) fun e w' => e = .returned (.bool (!false)) ∧ w' = w7.drewN n) := by
                      intro n
                      refine (diskPower_any _ _ _ _ _ (w7.drewN n) (by exact hD7)).mono ?_
                      rintro e w' ⟨rfl, rfl⟩
                      exact ⟨rfl, rfl⟩
                    have r0 : w7.cell? ⟨m, 0, none⟩ = some (.string rb2) := by rw [Lib.cell_of_heap hR7]; rfl
                    have r1 : w7.cell? ⟨m, 1, none⟩ = some (.bool false) := by rw [Lib.cell_of_heap hR7]; rfl
                    have hqq : (rb2.toList == rb2.toList) = true := beq_self_eq_true _
                    have hqo : ((!false) == false) = false := rfl
                    clear hrb HR6 hb6 hD6 hb7 hrl2 hbs'
                    go_wp2_with fail
                    go_quiet (first | exact Calls.quiet_of_same (HQ1.out _) | exact Calls.quiet_of_same (HQ2.out _))
                    go_wp2_with fail
                    go_roundw
                    case rel => exact ⟨k + 1, bs', false, (-1), rb2, by omega, by go_num, HB6, by omega, (by omega), (by omega), hD7, hR7, hb7'.trans ((below_drewN _ _ _).mono hb7'.size)⟩
                    case measure => simp [intOf]; omega
          · go_wp2_with fail
            go_ret
            rw [HWA.out]
            exact ⟨rfl, hend⟩
        · obtain rfl : k = l.length := by omega
          have hbl : (bl rb).length = rb.size := bl_length rb
          have hrl : rb.size = bs.length := by rw [← hbl, HBL.out]
          have hR := HR.out
          unfold RTapeIs at hR
          have r0 : wr.cell? ⟨m, 0, none⟩ = some (.string rb) := by rw [Lib.cell_of_heap hR]; rfl
          have C := Lib.hid (read_any rb wr (by omega) (HF.out wr hb).2)
          clear HD
          go_wp2_with fail
          refine C.out.mono ?_
          clear C
          rintro e w5 ⟨v5, zs, n5, rfl, HZ, HZM, HN5, hn5, hzl, hb5⟩
          have r5 : w5.cell? ⟨m, 0, none⟩ = some (.string rb) := by rw [Lib.cell_of_heap (HR.out.below hb5)]; rfl
          have C := Lib.hid (readTape_any rb w5 (by omega))
          clear r0
          go_wp2_with fail
          refine C.out.mono ?_
          clear C
          rintro e w6 ⟨u6, ys, n6, rfl, HY, HYM, HN6, hn6, hyl, hb6⟩
          obtain rfl : n5 = n6 := by rw [HN5.out, HN6.out, HZM.out, HYM.out]
          have hb7 := hb.trans ((hb5.trans (hb6.mono hb5.size)).mono hb.size)
          have HC := Lib.hid (sameTexts_same ((Row.of_owns (enc := encStr) (fun _ => rfl) HZ.out).ext hb6) (Row.of_owns (enc := encStr) (fun _ => rfl) HY.out) (by rw [HZM.out, HYM.out]) (by omega))
          clear HZ HZM HY HYM HN5 HN6 r5 hR
          go_wp2_with fail
          refine HC.out.mono ?_
          rintro e w8 ⟨rfl, hb8⟩
          go_wp2_with fail
          go_ret
          exact ⟨rfl, hb1.trans ((hb7.trans (hb8.mono hb7.size)).mono hBl)⟩
    · go_wp2_with fail
      go_ret
      exact ⟨rfl, hb1⟩
  · go_wp2_with fail
    go_ret
    exact ⟨rfl, hb1⟩
end Go.Proofs.YtpafddeakanopaaDoor
