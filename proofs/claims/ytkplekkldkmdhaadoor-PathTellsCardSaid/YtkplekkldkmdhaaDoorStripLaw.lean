/- chandlerylaw1.PathStrips: the walk. -/
import Derived.Test.YtkplekkldkmdhaaDoorPathMore
import Derived.Test.YtkplekkldkmdhaaDoorCodedOne
import Derived.Test.YtkplekkldkmdhaaDoorLink
namespace Go.Proofs.YtkplekkldkmdhaaDoor
open Go Go.RowKit

theorem cenv_of {E : Nat → Addr} {w : World} (hE : Env E w) (hm : ∃ m, w.cell? ⟨14, 0, none⟩ = some (.int .i64 m)) : CEnv E w :=
  ⟨⟨hE.eName, hE.eFull, hm⟩, hE.eShape, hE.eOut⟩
/-- The thirteen, and the library's bound. -/
structure PTEnv (E : Nat → Addr) (w : World) : Prop where
  env : Env E w
  max : ∃ m, w.cell? ⟨14, 0, none⟩ = some (.int .i64 m)
theorem PTEnv.ext {E : Nat → Addr} {w w' : World} (h : PTEnv E w) (hb : Below w.heap.size w w') : PTEnv E w' :=
  ⟨h.env.ext hb, (cenv_of h.env h.max).ext hb |>.path.max⟩
theorem PTEnv.clean {E : Nat → Addr} {w : World} (h : PTEnv E w) : CEnv E w := cenv_of h.env h.max
theorem PTEnv.strip {E : Nat → Addr} {w : World} (h : PTEnv E w) : SEnv E w := ⟨h.clean, h.env.eBound⟩

set_option maxRecDepth 100000 in
theorem pathed_any {E : Nat → Addr} (w : World) (hE : PTEnv E w) : Calls Tryd.prog 31 #[] w fun e w' => e = .returned (.bool true) ∧ Below w.heap.size w w' := by
  have s1 : cleanE [97, 47, 46, 47, 98, 47, 47, 46, 46, 47, 99] = 0 := by decide +kernel
  have s2 : cleanT [97, 47, 46, 47, 98, 47, 47, 46, 46, 47, 99] = [97, 47, 99] := by decide +kernel
  have s3 : cleanE [97, 47, 46, 46, 47, 46, 46] = 10 := by decide +kernel
  have S1 := Lib.hid s1; have S2 := Lib.hid s2; have S3 := Lib.hid s3
  clear s1 s2 s3
  have C := Lib.hid (clean_any ⟨#[97, 47, 46, 47, 98, 47, 47, 46, 46, 47, 99]⟩ w (by decide) hE.clean)
  have HE := Lib.hid hE
  clear hE
  go_enter Tryd.func31, Tryd.ntmps31
  go_wp2_with fail
  refine C.out.mono ?_
  clear C
  rintro e w1 ⟨⟨x, rfl, HX⟩, hb⟩
  have e1 : errV E (cleanE (bl ⟨#[97, 47, 46, 47, 98, 47, 47, 46, 46, 47, 99]⟩)) = .nilIface := congrArg (errV E) S1.out
  rw [e1]
  have hx : x = ⟨#[97, 47, 99]⟩ := blInj (HX.out.trans S2.out)
  subst hx
  clear e1 HX
  have C := Lib.hid (clean_any ⟨#[97, 47, 46, 46, 47, 46, 46]⟩ w1 (by decide) (HE.out.ext hb).clean)
  go_wp2_with fail
  refine C.out.mono ?_
  clear C
  rintro e w2 ⟨⟨x, rfl, HX⟩, hb2⟩
  have e1 : errV E (cleanE (bl ⟨#[97, 47, 46, 46, 47, 46, 46]⟩)) = errV E 10 := congrArg (errV E) S3.out
  rw [e1]
  clear e1
  have C := Lib.hid (errCoded1 (c := 10) ((HE.out.ext hb).ext hb2).env (by decide))
  go_wp2_with fail
  refine C.out.mono ?_
  clear C
  rintro e w3 ⟨rfl, hb3⟩
  go_wp2_with fail
  go_ret
  exact ⟨rfl, hb.trans ((hb2.trans (hb3.mono hb2.size)).mono hb.size)⟩

set_option maxHeartbeats 2000000 in
set_option maxRecDepth 100000 in
theorem pathStrips_walk {E : Nat → Addr} {w : World} (hE : PTEnv E w) (s : ByteArray) (n m : Int) :
    Calls Tryd.prog 6 #[.string s, .int .i64 n, .int .i64 m] w fun e w' => e = .returned (.bool true) ∧ Below w.heap.size w w' := by
  have C := Lib.hid (pathed_any w hE)
  have HE := Lib.hid hE
  clear hE
  by_cases hg : s.size ≤ 100 ∧ 0 ≤ n ∧ n ≤ 20 ∧ 0 ≤ m ∧ m ≤ 20
  · obtain ⟨ls, n0, n1, m0, m1⟩ := hg
    obtain ⟨N, rfl⟩ : ∃ N : Nat, n = N := ⟨n.toNat, by omega⟩
    obtain ⟨M, rfl⟩ : ∃ M : Nat, m = M := ⟨m.toNat, by omega⟩
    go_enter Tryd.func6, Tryd.ntmps6
    go_wp2_with fail
    refine C.out.mono ?_
    clear C
    rintro e w1 ⟨rfl, b1⟩
    have C := Lib.hid (pathParts_any s w1 (by omega) (HE.out.ext b1).clean.path)
    go_wp2_with fail
    refine C.out.mono ?_
    clear C
    intro e w2 h
    unfold PartsPost at h
    obtain ⟨⟨zs, b, L, rfl, HZ, hL, h6, HS, HA, HR⟩ | ⟨k, rfl, HR⟩, hb⟩ := h
    · have b2 := b1.trans (hb.mono b1.size)
      clear hb
      have HL : Hid ((cutL 47 (bl s)).length = L) := by show _ = _; rw [← HZ.out, List.length_map, hL]
      have C := Lib.hid (pathStrip_any s N w2 (by omega) (WalkArith.wf_i64 (by omega)) (HE.out.ext b2).strip)
      have HI := Lib.hid (strip_ok_iff (n := N) HR.out)
      go_wp2_with fail
      refine C.out.mono ?_
      clear C
      rintro e w3 ⟨⟨x, rfl, HX⟩, hb⟩
      have b3 := b2.trans (hb.mono b2.size)
      have HA3 := Lib.hid (HA.out.ext hb)
      clear hb HA
      cases hc : stripE (bl s) N with
      | succ c =>
        have hge : ¬ (N : Int) < (L : Int) := by
          intro h
          have := HI.out.2 (by rw [HL.out]; omega)
          rw [hc] at this; cases this
        obtain rfl : x = ⟨#[]⟩ := blInj (HX.out.trans (by unfold stripT; rw [hc]; rfl))
        rw [show errV E (c + 1) = sentV E c from rfl]
        clear hc HX HI
        go_wp2_with fail
        go_ret
        exact ⟨rfl, b3⟩
      | zero =>
        have hlt : N < L := by rw [← HL.out]; exact HI.out.1 hc
        have HC0 := Lib.hid hc
        have HH := Lib.hid (strip_head (n := N) HR.out (by rw [HL.out]; exact hlt))
        have HM := Lib.hid (strip_more (n := N) (m := M) HR.out (by rw [HL.out]; exact hlt))
        rw [show errV E 0 = .nilIface from rfl]
        clear hc HI
        have HN := Lib.hid hL
        have hlt2 : N < zs.length := by rw [← hL]; exact hlt
        have hq : decide ((N : Int) < (zs.length : Int)) = true := decide_eq_true (by omega)
        clear hL
        go_wp2_with fail
        go_loop [11, 12] (fun hd i => ∃ (k : Nat) (h : ByteArray), k ≤ N ∧ i = .int .i64 k ∧ hd = .string h ∧ h.size ≤ 200 * k ∧ Hid (bl h = headOf ((cutL 47 (bl s)).take k))) (fun _ i => N - (intOf i).toNat)
        case atStart => exact ⟨0, ⟨#[]⟩, Nat.zero_le _, rfl, rfl, Nat.le_refl _, rfl⟩
        case round =>
          obtain ⟨k, h, hk, rfl, rfl, hh, HB⟩ := hrel
          by_cases hkl : k < N
          · have hkz : k < zs.length := by rw [← HN.out]; omega
            have cl := HA3.out.2 k hkz
            have HB2 : Hid (bl (h ++ zs[k] ++ ⟨#[47]⟩) = headOf ((cutL 47 (bl s)).take (k + 1))) := by
              show _ = _
              have e : (cutL 47 (bl s))[k]? = some (bl zs[k]) := by rw [← HZ.out, List.getElem?_map, List.getElem?_eq_getElem hkz]; rfl
              rw [blAdd, blAdd, HB.out, List.take_add_one, e]
              simp [headOf, bl]
            have hz := HS.out zs[k] (List.getElem_mem hkz)
            have hsz : (h ++ zs[k] ++ ⟨#[47]⟩).size = h.size + zs[k].size + 1 := by
              have e1 := congrArg List.length (blAdd (h ++ zs[k]) ⟨#[47]⟩)
              have e2 := congrArg List.length (blAdd h zs[k])
              rw [List.length_append, bl_length, bl_length, bl_length] at e1 e2
              rw [e1, e2]; rfl
            generalize zs[k] = z at cl HB2 hz hsz
            clear HB
            go_wp2_with fail
            go_round
            case rel => exact ⟨k + 1, _, by omega, by go_num, rfl, by omega, HB2⟩
            case measure => simp [intOf]; omega
          · obtain rfl : k = N := by omega
            have q1 : ((h ++ x).toList == s.toList) = true := by
              rw [beq_iff_eq, toList_bl, toList_bl, blAdd, HB.out, HX.out]; exact HH.out
            have hxs : x.size ≤ 100 := by
              have := congrArg List.length HH.out
              rw [List.length_append, ← HX.out, bl_length, bl_length] at this
              omega
            clear HB
            have C := Lib.hid (pathStrip_any x M w3 (by omega) (WalkArith.wf_i64 (by omega)) (HE.out.ext b3).strip)
            go_wp2_with fail
            refine C.out.mono ?_
            clear C
            rintro e w4 ⟨⟨y, rfl, HY⟩, hb⟩
            have b4 := b3.trans (hb.mono b3.size)
            clear hb
            have C := Lib.hid (pathStrip_any s ((k + M : Nat) : Int) w4 (by omega) (WalkArith.wf_i64 (by omega)) (HE.out.ext b4).strip)
            go_wp2_with fail
            refine C.out.mono ?_
            clear C
            rintro e w5 ⟨⟨z, rfl, HZ2⟩, hb⟩
            have b5 := b4.trans (hb.mono b4.size)
            clear hb
            obtain rfl : y = z := blInj (by rw [HY.out, HZ2.out, HX.out]; exact HM.out.2)
            have HQ : Hid (stripE (bl x) M = 0 ↔ stripE (bl s) ((k + M : Nat) : Int) = 0) := by show _ ↔ _; rw [HX.out]; exact HM.out.1
            clear HY HZ2 HX HM HH HZ HA3
            cases c1 : stripE (bl x) M with
            | zero =>
              have c2 := HQ.out.1 c1
              rw [c2, show errV E 0 = .nilIface from rfl]
              clear HQ c1 c2
              go_wp2_with fail
              go_quiet (fail)
              go_wp2_with fail
              go_ret
              exact ⟨rfl, b5.trans ((below_drewN _ _ _).mono b5.size)⟩
            | succ c =>
              cases c2 : stripE (bl s) ((k + M : Nat) : Int) with
              | zero => rw [HQ.out.2 c2] at c1; cases c1
              | succ d =>
                rw [show errV E (c + 1) = sentV E c from rfl, show errV E (d + 1) = sentV E d from rfl]
                clear HQ c1 c2
                go_wp2_with fail
                go_quiet (fail)
                go_wp2_with fail
                go_ret
                exact ⟨rfl, b5.trans ((below_drewN _ _ _).mono b5.size)⟩
    · go_wp2_with fail
      go_ret
      exact ⟨rfl, b1.trans (hb.mono b1.size)⟩
  · go_enter Tryd.func6, Tryd.ntmps6
    go_wp2_with fail
    refine C.out.mono ?_
    clear C
    rintro e w1 ⟨rfl, b1⟩
    by_cases g1 : s.size ≤ 100
    · by_cases g2 : 0 ≤ n
      · by_cases g3 : n ≤ 20
        · by_cases g4 : 0 ≤ m
          · have g5 : ¬ m ≤ 20 := fun h => hg ⟨g1, g2, g3, g4, h⟩
            go_wp2_with fail
            go_ret
            exact ⟨rfl, b1⟩
          · go_wp2_with fail
            go_ret
            exact ⟨rfl, b1⟩
        · go_wp2_with fail
          go_ret
          exact ⟨rfl, b1⟩
      · go_wp2_with fail
        go_ret
        exact ⟨rfl, b1⟩
    · go_wp2_with fail
      go_ret
      exact ⟨rfl, b1⟩
end Go.Proofs.YtkplekkldkmdhaaDoor
