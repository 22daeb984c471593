/- chandlerylaw2.NetBegins: the walk. -/
import Derived.Test.YtpafddeakanopaaDoorNetParts
import Derived.Test.YtpafddeakanopaaDoorNetBeginsPlain
namespace Go.Proofs.YtpafddeakanopaaDoor
open Go Go.RowKit

theorem putN_err {n n' : NetB} {u s : ByteArray} {c : Nat} (h : putN n u s = (c + 1, n')) : n' = n := by
  unfold putN at h
  split at h
  · injection h with _ h; exact h.symm
  · split at h
    · injection h with _ h; exact h.symm
    · split at h
      · injection h with h _; cases h
      · split at h
        · injection h with _ h; exact h.symm
        · injection h with h _; cases h
theorem host_off {n n' : NetB} {u : ByteArray} (h : hostN n u false = (0, n')) : partB (bl u) = true ∧ (n'.off.map bl).contains (bl u) = true := by
  unfold hostN at h
  split at h
  · rename_i hp
    injection h with _ h
    subst h
    refine ⟨hp, ?_⟩
    show ((n.off.filter (fun x => x ≠ u) ++ (if false = true then [] else [u])).map bl).contains (bl u) = true
    rw [off_host]; simp
  · injection h with h _; cases h
theorem host_link (u : ByteArray) : bl ((⟨#[104, 116, 116, 112, 58, 47, 47]⟩ ++ u) ++ ⟨#[47, 120]⟩) = 104 :: 116 :: 116 :: 112 :: 58 :: 47 :: 47 :: (bl u ++ [47, 120]) := by
  rw [bl_append, bl_append]; rfl
/-- Rows of texts. -/
def StrRow (o : Obj) : Prop := ∃ cs fz, o = .cells cs 9 fz
theorem notS_map (es : Array MapEntry) (c : Nat) : ¬ StrRow (.map es c) := by rintro ⟨_, _, h⟩; cases h
theorem notS_net (cs : Array Value) (fz : Nat × Nat) : ¬ StrRow (.cells cs 95 fz) := by rintro ⟨_, _, h⟩; injection h with _ h3 _; exact absurd h3 (by decide)
theorem notS_act (cs : Array Value) : ¬ StrRow (.cells cs 64 (0, 0)) := by rintro ⟨_, _, h⟩; injection h with _ h3 _; exact absurd h3 (by decide)
theorem owns_shape {w : World} {base n : Nat} {e : TypeId} {size : Nat} {v : Value} {xs : List Value} (h : w.ownsRow base e size v n xs) : ∃ ao cap, v = .slice ao n cap := by
  rcases h.2 with ⟨rfl, h0⟩ | ⟨g, cap, cur, rfl, _⟩
  · exact ⟨none, 0, by rw [h0]⟩
  · exact ⟨_, _, rfl⟩
def Apart (v u : Value) : Prop := ∀ g, v.ownBlock = some g → u.ownBlock ≠ some g
theorem Apart.ne {v u : Value} (h : Apart v u) : u.ownBlock = none ∨ u.ownBlock ≠ v.ownBlock := by
  cases hv : v.ownBlock with
  | none => cases hu : u.ownBlock with
    | none => exact .inl rfl
    | some g => exact .inr (by simp)
  | some g => exact .inr (h g hv)
theorem Apart.ne2 {v u : Value} (h : Apart v u) : v.ownBlock = none ∨ v.ownBlock ≠ u.ownBlock := by
  cases hv : v.ownBlock with
  | none => exact .inl rfl
  | some g => exact .inr (fun e => h g hv e.symm)

set_option maxHeartbeats 4000000 in
set_option maxRecDepth 100000 in
theorem netBegins_walk {E : Nat → Addr} {w : World} (hE : NEnv E w) (v : Value) (l : List ActB) (hv : ARow w v l) :
    Calls Tryd.prog 6 #[v] w fun e w' => e = .returned (.bool true) ∧ Below w.heap.size w w' := by
  obtain ⟨i0, hi0, hz0, hz1, hz2⟩ := info_parts Tryd.infoStrN
  have HE := Lib.hid hE
  have C := Lib.hid (netted_any w hE)
  have hAv := Lib.hid hv
  have hv2 := hv
  obtain ⟨ao, cap, rfl, h1, h2, H3⟩ := hv2
  have HM := Lib.hid H3
  clear H3 hE hv
  go_enter Tryd.func6, Tryd.ntmps6
  go_wp2_with fail
  refine C.out.mono ?_
  clear C
  rintro e w1 ⟨rfl, hb1⟩
  have C := Lib.hid (longActs_any _ l 100 w1 (by decide) (hAv.out.ext hb1))
  go_wp2_with fail
  refine C.out.mono ?_
  clear C
  rintro e w2 ⟨⟨rfl, hl, HS⟩ | rfl, rfl⟩
  · have C := Lib.hid (netNew_any w2)
    go_wp2_with fail
    refine C.out.mono ?_
    clear C
    rintro e w3 ⟨b, rfl, HN3, hb3⟩
    have HF := Lib.hid (fun (W : World) (hW : Below w2.heap.size w2 W) => HE.out.ext (hb1.trans (hW.mono hb1.size)))
    have HG := Lib.hid (gE_lt (HF.out w2 (Below.refl _ _)).1)
    have hb3z := hb3.size
    obtain ⟨B, hB⟩ : ∃ B, w2.heap.size = B := ⟨_, rfl⟩
    have hb1B : w.heap.size ≤ B := by rw [← hB]; exact hb1.size
    rw [hB] at HN3 hb3 HF HG
    have hb3s : B ≤ w3.heap.size := by rw [← hB]; exact hb3z
    clear hB hb3z
    go_wp2_with fail
    go_loopw [5, 6, 7] (fun du dt i wr => ∃ (k : Nat) (n : NetB) (U T : List ByteArray), k ≤ l.length ∧ i = .int .i64 k ∧ U.length ≤ k ∧ T.length ≤ k ∧ Hid (Told n U T) ∧ Hid (NetIs wr B b n (2 * k)) ∧ Hid (wr.ownsRow B 9 1 du U.length (U.flatMap encStr)) ∧ Hid (wr.ownsRow B 9 1 dt T.length (T.flatMap encStr)) ∧ Hid (Apart du dt) ∧ Below B w2 wr ∧ B ≤ wr.heap.size) (fun _ _ i _ => l.length - (intOf i).toNat)
    case atStart => exact ⟨0, _, [], [], Nat.zero_le _, rfl, Nat.le_refl _, Nat.le_refl _, Told.nil, HN3, World.ownsRow_nil _ _ _ _, World.ownsRow_nil _ _ _ _, (fun g h => by cases h), hb3, hb3s⟩
    case round =>
      obtain ⟨k, n, U, T, hk, rfl, hUk, hTk, HT, HN, HU, HV, HAP, hb, hBw⟩ := hrel
      by_cases hlt : k < l.length
      · obtain ⟨ab, aoff, rfl, habl, hcell⟩ := HM.out k hlt
        obtain ⟨q0, q1, q2, q3, q4, q5, q6⟩ := hcell k hlt
        have hsm := HS.out k hlt
        have hbw : Below w.heap.size w wr := hb1.trans (hb.mono hb1B)
        rw [← hbw.cell (p := ⟨ab, aoff + k * 5, none⟩) habl] at q0
        rw [← hbw.cell (p := ⟨ab, aoff + k * 5 + 1, none⟩) habl] at q1
        rw [← hbw.cell (p := ⟨ab, aoff + k * 5 + 2, none⟩) habl] at q2
        rw [← hbw.cell (p := ⟨ab, aoff + k * 5 + 3, none⟩) habl] at q3
        rw [← hbw.cell (p := ⟨ab, aoff + k * 5 + 4, none⟩) habl] at q4
        clear hcell
        rcases ha : l[k] with ⟨kd, u, s, kn, on⟩
        rw [ha] at q0 q1 q2 q3 q4 q5 q6 hsm
        clear ha
        dsimp only at q0 q1 q2 q3 q4 q5 q6
        have hu : u.size ≤ 120 := hsm.1
        have hs : s.size ≤ 20001 := by rcases hsm.2 with h | h <;> (dsimp only at h; omega)
        clear hsm
        obtain ⟨pa, hpa⟩ : ∃ pa, wr.heap.size = pa := ⟨_, rfl⟩
        obtain ⟨wa, hwa⟩ : ∃ wa, wr.alloc (.cells #[.string kd, .string u, .string s, .int .i64 kn, .bool on] 64) = wa := ⟨_, rfl⟩
        have hal : Below wr.heap.size wr wa := by rw [← hwa]; exact (Below.refl _ _).alloc (Nat.le_refl _) _
        have hA : wa.heap[pa]? = some (.cells #[.string kd, .string u, .string s, .int .i64 kn, .bool on] 64 (0, 0)) := by rw [← hwa, ← hpa]; exact heap_alloc_new _ _
        have HNa := Lib.hid (HN.out.below hal)
        have HUa := Lib.hid (owns_below HU.out hal)
        have HVa := Lib.hid (owns_below HV.out hal)
        have hba := hb.trans (hal.mono hBw)
        have hBa : B ≤ wa.heap.size := Nat.le_trans hBw hal.size
        have HPA := Lib.hid hpa
        have HWA := Lib.hid hwa
        have hcells : ∀ W : World, W.heap[pa]? = some (.cells #[.string kd, .string u, .string s, .int .i64 kn, .bool on] 64 (0, 0)) → W.cell? ⟨pa, 1, none⟩ = some (.string u) ∧ W.cell? ⟨pa, 2, none⟩ = some (.string s) ∧ W.cell? ⟨pa, 3, none⟩ = some (.int .i64 kn) ∧ W.cell? ⟨pa, 4, none⟩ = some (.bool on) := by
          intro W hW
          exact ⟨by rw [Lib.cell_of_heap hW]; rfl, by rw [Lib.cell_of_heap hW]; rfl, by rw [Lib.cell_of_heap hW]; rfl, by rw [Lib.cell_of_heap hW]; rfl⟩
        have HCE := Lib.hid hcells
        obtain ⟨a1, a2, a3, a4⟩ := hcells wa hA
        have a0 : wa.cell? ⟨pa, 0, none⟩ = some (.string kd) := by rw [Lib.cell_of_heap hA]; rfl
        have HA := Lib.hid hA
        have hEa := Lib.hid (HF.out wa hba)
        clear hpa hwa hcells hal hA HN HU HV
        obtain ⟨KP, hKP⟩ : ∃ KP : Bool, (kd.toList == [112, 117, 116]) = KP := ⟨_, rfl⟩
        cases KP with
        | true =>
          obtain ⟨c, n', hr⟩ : ∃ c n', putN n u s = (c, n') := ⟨_, _, rfl⟩
          have C1 := netPut_any B b (2 * k) n u s wa HNa.out (by omega) (by omega) hBa hEa.out
          rw [hr] at C1
          unfold NetPost at C1
          dsimp only at C1
          have HR := Lib.hid hr
          have HC1 := Lib.hid C1
          clear C1 hr
          go_wp2_with fail
          rw [HWA.out, HPA.out]
          refine HC1.out.mono ?_
          clear HC1
          rintro e w5 ⟨rfl, HN5, HK5⟩
          have hA5 := HK5.keep pa _ HA.out (notN_act _)
          obtain ⟨b1, b2, b3, b4⟩ := HCE.out w5 hA5
          have hN5 := Lib.hid HN5
          have hU5 := Lib.hid (HK5.owns HUa.out notN_str)
          have hV5 := Lib.hid (HK5.owns HVa.out notN_str)
          have hb5 := hba.trans HK5.below
          have hB5 : B ≤ w5.heap.size := Nat.le_trans hBa HK5.below.size
          have HA5 := Lib.hid hA5
          clear HN5 HK5 hA5 a0 a1 a2 a3 a4
          cases c with
          | succ c =>
            rw [show errV E (c + 1) = sentV E c from rfl]
            obtain rfl : n' = n := putN_err HR.out
            go_wp2_with fail
            go_roundw
            case rel => exact ⟨k + 1, n', U, T, by omega, by go_num, by omega, by omega, HT, hN5.out.later (by omega), hU5, hV5, HAP, hb5, hB5⟩
            case measure => simp [intOf]; omega
          | zero =>
            rw [show errV E 0 = .nilIface from rfl]
            have HT2 := Lib.hid (HT.out.put HR.out)
            go_wp2_with (at_builtin; refine wpList_append_own_at _ rfl _ _ 25 rfl B 9 i0 (.string ⟨#[]⟩) 1 16 Tryd.underlying25 hi0 hz0 hz1 hz2 rfl (by decide) _ _ _ rfl (hU5.out.alloc _) ⟨w5.heap.size, 0, none⟩ 1 1 (encStr u) rfl rfl ?c1 ?c2 ?c3 ?c4 ?c5 ?_)
            case c1 =>
              intro j x hj
              match j, hj with
              | 0, hj => simp at hj; subst hj; simp [Addr.add]
            case c2 => intro x hx; simp at hx; subst hx; rfl
            case c3 => unfold maxLen; omega
            case c4 => omega
            case c5 => simp; omega
            intro v6 w6 hown6 hgrow6 _ hloc6
            have hal6 : Below w5.heap.size w5 (w5.alloc (.cells #[.string u] 9)) := (Below.refl _ _).alloc (Nat.le_refl _) _
            have hs6 : (w5.alloc (.cells #[.string u] 9)).heap.size = w5.heap.size + 1 := by simp only [World.size_alloc]
            have hK6 : Keeps StrRow B w5 w6 := (Keeps.of hal6 hB5).trans (keeps_grown (hU5.out.alloc _) hgrow6 (by omega) (fun cs => ⟨_, _, rfl⟩))
            have hV6 := Lib.hid (World.ownsRow.kept (World.ownsRow.alloc hV5.out _) hgrow6 HAP.out.ne)
            have hap6 : Apart v6 _ := fun g hg hg2 => by
              rcases hloc6 with e | e
              · exact HAP.out g (e ▸ hg) hg2
              · have h3 := (hV5.out.lt g hg2).2
                rw [e] at hg
                have := Option.some.inj hg
                omega
            have hHAP6 := Lib.hid hap6
            have hA6 := hK6.keep pa _ HA5.out (notS_act _)
            obtain ⟨_, c2, _, _⟩ := HCE.out w6 hA6
            have hN6 := Lib.hid (hN5.out.keeps hK6 notS_map notS_net)
            have hb6 := hb5.trans hK6.below
            have hB6 : B ≤ w6.heap.size := Nat.le_trans hB5 hK6.below.size
            have hU6 : Hid (w6.ownsRow B 9 1 v6 (U ++ [u]).length ((U ++ [u]).flatMap encStr)) := by
              show World.ownsRow _ _ _ _ _ _ _
              rw [List.length_append, List.flatMap_append]
              simpa using hown6
            have HA6 := Lib.hid hA6
            clear hown6 hgrow6 hloc6 hal6 hs6 hK6 hap6 hA6 b1 b2 b3 b4 hU5 hV5 hN5 hb5 HA5 HAP
            go_wp2_with (at_builtin; refine wpList_append_own_at _ rfl _ _ 25 rfl B 9 i0 (.string ⟨#[]⟩) 1 16 Tryd.underlying25 hi0 hz0 hz1 hz2 rfl (by decide) _ _ _ rfl (hV6.out.alloc _) ⟨w6.heap.size, 0, none⟩ 1 1 (encStr s) rfl rfl ?d1 ?d2 ?d3 ?d4 ?d5 ?_)
            case d1 =>
              intro j x hj
              match j, hj with
              | 0, hj => simp at hj; subst hj; simp [Addr.add]
            case d2 => intro x hx; simp at hx; subst hx; rfl
            case d3 => unfold maxLen; omega
            case d4 => omega
            case d5 => simp; omega
            intro v7 w7 hown7 hgrow7 _ hloc7
            have hal7 : Below w6.heap.size w6 (w6.alloc (.cells #[.string s] 9)) := (Below.refl _ _).alloc (Nat.le_refl _) _
            have hs7 : (w6.alloc (.cells #[.string s] 9)).heap.size = w6.heap.size + 1 := by simp only [World.size_alloc]
            have hK7 : Keeps StrRow B w6 w7 := (Keeps.of hal7 hB6).trans (keeps_grown (hV6.out.alloc _) hgrow7 (by omega) (fun cs => ⟨_, _, rfl⟩))
            have hU7 := Lib.hid (World.ownsRow.kept (World.ownsRow.alloc hU6.out _) hgrow7 hHAP6.out.ne2)
            have hap7 : Hid (Apart v6 v7) := fun g hg hg2 => by
              rcases hloc7 with e | e
              · exact hHAP6.out g hg (e ▸ hg2)
              · have h3 := (hU6.out.lt g hg).2
                rw [e] at hg2
                have := Option.some.inj hg2
                omega
            have hN7 := Lib.hid (hN6.out.keeps hK7 notS_map notS_net)
            have hb7 := hb6.trans hK7.below
            have hB7 : B ≤ w7.heap.size := Nat.le_trans hB6 hK7.below.size
            have hV7 : Hid (w7.ownsRow B 9 1 v7 (T ++ [s]).length ((T ++ [s]).flatMap encStr)) := by
              show World.ownsRow _ _ _ _ _ _ _
              rw [List.length_append, List.flatMap_append]
              simpa using hown7
            clear hown7 hgrow7 hloc7 hal7 hs7 hK7 hU6 hV6 hN6 hb6 hHAP6
            go_wp2_with fail
            go_roundw
            case rel => exact ⟨k + 1, n', U ++ [u], T ++ [s], by omega, by go_num, by rw [List.length_append]; simp; omega, by rw [List.length_append]; simp; omega, HT2, hN7.out.later (by omega), hU7, hV7, hap7, hb7, hB7⟩
            case measure => simp [intOf]; omega
        | false =>
          obtain ⟨KH, hKH⟩ : ∃ KH : Bool, (kd.toList == [104, 111, 115, 116]) = KH := ⟨_, rfl⟩
          cases KH with
          | true =>
            obtain ⟨c, n', hr⟩ : ∃ c n', hostN n u on = (c, n') := ⟨_, _, rfl⟩
            have C1 := netHost_any B b (2 * k) n u on wa HNa.out (by omega) (by omega) hBa hEa.out
            rw [hr] at C1
            unfold NetPost at C1
            dsimp only at C1
            have HR := Lib.hid hr
            have HC1 := Lib.hid C1
            clear C1 hr
            go_wp2_with fail
            rw [HWA.out, HPA.out]
            refine HC1.out.mono ?_
            clear HC1
            rintro e w5 ⟨rfl, HN5, HK5⟩
            have hA5 := HK5.keep pa _ HA.out (notN_act _)
            obtain ⟨b1, b2, b3, b4⟩ := HCE.out w5 hA5
            have hN5 := Lib.hid HN5
            have hU5 := Lib.hid (HK5.owns HUa.out notN_str)
            have hV5 := Lib.hid (HK5.owns HVa.out notN_str)
            have hb5 := hba.trans HK5.below
            have hB5 : B ≤ w5.heap.size := Nat.le_trans hBa HK5.below.size
            have HA5 := Lib.hid hA5
            clear HN5 HK5 hA5 a0 a1 a2 a3 a4
            have HT2 := Lib.hid (HT.out.host u on)
            rw [HR.out] at HT2
            cases c with
            | succ c =>
              rw [show errV E (c + 1) = sentV E c from rfl]
              go_wp2_with fail
              go_roundw
              case rel => exact ⟨k + 1, n', U, T, by omega, by go_num, by omega, by omega, HT2, hN5.out.later (by omega), hU5, hV5, HAP, hb5, hB5⟩
              case measure => simp [intOf]; omega
            | zero =>
              rw [show errV E 0 = .nilIface from rfl]
              cases on with
              | true =>
                go_wp2_with fail
                go_roundw
                case rel => exact ⟨k + 1, n', U, T, by omega, by go_num, by omega, by omega, HT2, hN5.out.later (by omega), hU5, hV5, HAP, hb5, hB5⟩
                case measure => simp [intOf]; omega
              | false =>
                obtain ⟨hp, hoff⟩ := host_off HR.out
                have hXl := host_link u
                have hXs : ((⟨#[104, 116, 116, 112, 58, 47, 47]⟩ ++ u) ++ ⟨#[47, 120]⟩ : ByteArray).size ≤ 1000 := by
                  rw [← bl_length, hXl]; simp [bl_length]; omega
                have hXh : lkH (bl ((⟨#[104, 116, 116, 112, 58, 47, 47]⟩ ++ u) ++ ⟨#[47, 120]⟩)) = bl u := by rw [hXl]; exact lkH_host _ hp
                have HXH := Lib.hid hXh
                have HXS := Lib.hid hXs
                have C := Lib.hid (linkCheck_any ((⟨#[104, 116, 116, 112, 58, 47, 47]⟩ ++ u) ++ ⟨#[47, 120]⟩) w5 (by omega) (HF.out w5 hb5).2)
                have HOFF := Lib.hid hoff
                clear hXl hXh hXs hp hoff
                go_wp2_with fail
                refine C.out.mono ?_
                clear C
                rintro e w6 ⟨rfl, hb6⟩
                have hA6 := (hb6.block pa (Array.getElem?_eq_some_iff.1 HA5.out).1).trans HA5.out
                obtain ⟨c1, c2, c3, c4⟩ := HCE.out w6 hA6
                have hN6 := Lib.hid (hN5.out.below hb6)
                have hU6 := Lib.hid (owns_below hU5.out hb6)
                have hV6 := Lib.hid (owns_below hV5.out hb6)
                have hb6' := hb5.trans (hb6.mono hB5)
                have hB6 : B ≤ w6.heap.size := Nat.le_trans hB5 hb6.size
                have HA6 := Lib.hid hA6
                clear hN5 hU5 hV5 hb5 hB5 HA5 hA6 b1 b2 b3 b4 hb6
                obtain ⟨c, hc⟩ : ∃ c, linkE (bl ((⟨#[104, 116, 116, 112, 58, 47, 47]⟩ ++ u) ++ ⟨#[47, 120]⟩)) = c := ⟨_, rfl⟩
                rw [hc]
                cases c with
                | succ c =>
                  rw [show errV E (c + 1) = sentV E c from rfl]
                  clear hc
                  go_wp2_with fail
                  go_roundw
                  case rel => exact ⟨k + 1, n', U, T, by omega, by go_num, by omega, by omega, HT2, hN6.out.later (by omega), hU6, hV6, HAP, hb6', hB6⟩
                  case measure => simp [intOf]; omega
                | zero =>
                  rw [show errV E 0 = .nilIface from rfl]
                  have hg : getN n' ((⟨#[104, 116, 116, 112, 58, 47, 47]⟩ ++ u) ++ ⟨#[47, 120]⟩) = ([], 13, { n' with calls := n'.calls + 1 }) := by
                    unfold getN
                    rw [hc, if_neg (by simp), HXH.out, if_pos HOFF.out]
                  have C1 := netGet_any B b (2 * k + 1) n' ((⟨#[104, 116, 116, 112, 58, 47, 47]⟩ ++ u) ++ ⟨#[47, 120]⟩) w6 hN6.out (by omega) (by have := HXS.out; omega) hB6 (HF.out w6 hb6') HG.out
                  rw [hg] at C1
                  unfold GetPost at C1
                  dsimp only at C1
                  have HC1 := Lib.hid C1
                  have HT3 := Lib.hid (HT2.out.get ((⟨#[104, 116, 116, 112, 58, 47, 47]⟩ ++ u) ++ ⟨#[47, 120]⟩))
                  rw [hg] at HT3
                  clear C1 hg hc
                  go_wp2_with fail
                  refine HC1.out.mono ?_
                  clear HC1
                  rintro e w7 ⟨x, rfl, HX, HN7, HK7⟩
                  obtain rfl : x = ⟨#[]⟩ := bl_eq HX.out
                  have hb7 := hb6'.trans HK7.below
                  have hB7 : B ≤ w7.heap.size := Nat.le_trans hB6 HK7.below.size
                  have C := Lib.hid (errCoded2 (E := E) (c := 13) (HF.out w7 hb7).1 (by decide))
                  have hN7 := Lib.hid HN7
                  have hU7 := Lib.hid (HK7.owns hU6.out notN_str)
                  have hV7 := Lib.hid (HK7.owns hV6.out notN_str)
                  clear HX HN7 HK7 hN6 hU6 hV6 HA6 c1 c2 c3 c4 hb6' hB6
                  go_wp2_with fail
                  refine C.out.mono ?_
                  clear C
                  rintro e w8 ⟨rfl, hb8⟩
                  have hN8 := Lib.hid (hN7.out.below hb8)
                  have hU8 := Lib.hid (owns_below hU7.out hb8)
                  have hV8 := Lib.hid (owns_below hV7.out hb8)
                  have hb8' := hb7.trans (hb8.mono hB7)
                  have hB8 : B ≤ w8.heap.size := Nat.le_trans hB7 hb8.size
                  clear hN7 hU7 hV7 hb7 hB7 hb8
                  go_wp2_with fail
                  go_roundw
                  case rel => exact ⟨k + 1, { n' with calls := n'.calls + 1 }, U, T, by omega, by go_num, by omega, by omega, HT3, hN8.out.later (by omega), hU8, hV8, HAP, hb8', hB8⟩
                  case measure => simp [intOf]; omega
          | false =>
            obtain ⟨KC, hKC⟩ : ∃ KC : Bool, (kd.toList == [99, 117, 116]) = KC := ⟨_, rfl⟩
            cases KC with
            | true =>
              obtain ⟨c, n', hr⟩ : ∃ c n', cutN n u kn = (c, n') := ⟨_, _, rfl⟩
              have C1 := netCut_any B b (2 * k) n u kn wa HNa.out (by omega) (by omega) ⟨q5, q6⟩ hBa hEa.out
              rw [hr] at C1
              unfold NetPost at C1
              dsimp only at C1
              have HR := Lib.hid hr
              have HC1 := Lib.hid C1
              clear C1 hr
              go_wp2_with fail
              rw [HWA.out, HPA.out]
              refine HC1.out.mono ?_
              clear HC1
              rintro e w5 ⟨rfl, HN5, HK5⟩
              have hA5 := HK5.keep pa _ HA.out (notN_act _)
              obtain ⟨b1, b2, b3, b4⟩ := HCE.out w5 hA5
              have hN5 := Lib.hid HN5
              have hU5 := Lib.hid (HK5.owns HUa.out notN_str)
              have hV5 := Lib.hid (HK5.owns HVa.out notN_str)
              have hb5 := hba.trans HK5.below
              have hB5 : B ≤ w5.heap.size := Nat.le_trans hBa HK5.below.size
              have HA5 := Lib.hid hA5
              clear HN5 HK5 hA5 a0 a1 a2 a3 a4
              have HT2 := Lib.hid (HT.out.cut u kn)
              rw [HR.out] at HT2
              go_wp2_with fail
              go_roundw
              case rel => exact ⟨k + 1, n', U, T, by omega, by go_num, by omega, by omega, HT2, hN5.out.later (by omega), hU5, hV5, HAP, hb5, hB5⟩
              case measure => simp [intOf]; omega
            | false =>
              obtain ⟨l', c, n', hr⟩ : ∃ l' c n', getN n u = (l', c, n') := ⟨_, _, _, rfl⟩
              have C1 := netGet_any B b (2 * k) n u wa HNa.out (by omega) (by omega) hBa hEa.out HG.out
              rw [hr] at C1
              unfold GetPost at C1
              dsimp only at C1
              have HR := Lib.hid hr
              have HC1 := Lib.hid C1
              have HT2 := Lib.hid (HT.out.get u)
              rw [hr] at HT2
              clear C1 hr
              go_wp2_with fail
              rw [HWA.out, HPA.out]
              refine HC1.out.mono ?_
              clear HC1
              rintro e w5 ⟨x, rfl, HX, HN5, HK5⟩
              have hA5 := HK5.keep pa _ HA.out (notN_act _)
              obtain ⟨b1, b2, b3, b4⟩ := HCE.out w5 hA5
              have hN5 := Lib.hid HN5
              have hU5 := Lib.hid (HK5.owns HUa.out notN_str)
              have hV5 := Lib.hid (HK5.owns HVa.out notN_str)
              have hb5 := hba.trans HK5.below
              have hB5 : B ≤ w5.heap.size := Nat.le_trans hBa HK5.below.size
              have HA5 := Lib.hid hA5
              have hpa5 : pa < w5.heap.size := (Array.getElem?_eq_some_iff.1 hA5).1
              clear HN5 HK5 hA5 a0 a1 a2 a3 a4 b2 b3 b4
              cases c with
              | succ c =>
                rw [show errV E (c + 1) = sentV E c from rfl]
                go_wp2_with fail
                go_roundw
                case rel => exact ⟨k + 1, n', U, T, by omega, by go_num, by omega, by omega, HT2, hN5.out.later (by omega), hU5, hV5, HAP, hb5, hB5⟩
                case measure => simp [intOf]; omega
              | zero =>
                rw [show errV E 0 = .nilIface from rfl]
                obtain ⟨j, y, r, hj, hy, hyx⟩ := get_told HT.out HR.out
                obtain ⟨ao5, cap5, rfl, g1, g2, G3⟩ := (Row.of_owns (enc := encStr) (fun _ => rfl) hU5.out).parts
                obtain ⟨ao6, cap6, rfl, g4, g5, G6⟩ := (Row.of_owns (enc := encStr) (fun _ => rfl) hV5.out).parts
                have HG3 := Lib.hid G3
                have HG6 := Lib.hid G6
                have HJ := Lib.hid hj
                have hjl : j < T.length := by
                  rcases List.getElem?_eq_some_iff.1 hy with ⟨h, _⟩; exact h
                have HY : Hid (T[j] = y) := by
                  obtain ⟨_, h⟩ := List.getElem?_eq_some_iff.1 hy; exact h
                have hbeg : Lib.hasPrefix (bl y) (bl x) = true := by
                  rw [hyx, HX.out]; exact List.isPrefixOf_iff_prefix.2 ⟨r, rfl⟩
                have HBEG := Lib.hid hbeg
                clear G3 G6 hj hy hyx hbeg HX
                go_wp2_with fail
                go_loopw [14, 15] (fun la ki wr => ∃ q : Nat, q ≤ U.length ∧ ki = .int .i64 q ∧ la = .int .i64 (lastInt (lastTo U u q)) ∧ Below w5.heap.size w5 wr) (fun _ i _ => U.length - (intOf i).toNat)
                case atStart => exact ⟨0, Nat.zero_le _, rfl, rfl, Below.refl _ _⟩
                case round =>
                  obtain ⟨q, hq, rfl, rfl, hbq⟩ := hrel
                  have d1 : wr.cell? ⟨pa, 1, none⟩ = some (.string u) := by rw [hbq.cell (p := ⟨pa, 1, none⟩) hpa5]; exact b1
                  by_cases hql : q < U.length
                  · obtain ⟨gb, goff, rfl, hgb, hgc⟩ := HG3.out q hql
                    have d2 : wr.cell? ⟨gb, goff + q, none⟩ = some (.string U[q]) := by rw [hbq.cell (p := ⟨gb, goff + q, none⟩) hgb]; exact hgc q hql
                    clear hgc
                    obtain ⟨z, hz⟩ : ∃ z, U[q] = z := ⟨_, rfl⟩
                    rw [hz] at d2
                    have HZ := Lib.hid hz
                    clear hz
                    obtain ⟨e, he⟩ : ∃ e, (z.toList == u.toList) = e := ⟨_, rfl⟩
                    cases e with
                    | true =>
                      have hzu : z = u := by
                        have := beq_iff_eq.1 he
                        rw [toList_bl, toList_bl] at this
                        exact bl_eq this
                      have H2 : Hid (lastInt (lastTo U u (q + 1)) = (q : Int)) := by
                        show _ = _
                        rw [lastTo_succ, List.getElem?_eq_getElem hql, HZ.out, hzu, if_pos rfl]; rfl
                      clear hzu
                      go_wp2_with fail
                      go_quiet (fail)
                      go_wp2_with fail
                      go_roundw
                      case rel => exact ⟨q + 1, by omega, by go_num, by rw [H2.out], hbq.trans ((below_drewN _ _ _).mono hbq.size)⟩
                      case measure => simp [intOf]; omega
                    | false =>
                      have hzu : z ≠ u := by
                        rintro rfl
                        rw [beq_self_eq_true] at he
                        cases he
                      have H2 : Hid (lastInt (lastTo U u (q + 1)) = lastInt (lastTo U u q)) := by
                        show _ = _
                        rw [lastTo_succ, List.getElem?_eq_getElem hql, HZ.out, if_neg (by simp [hzu])]
                      clear hzu
                      go_wp2_with fail
                      go_quiet (fail)
                      go_wp2_with fail
                      go_roundw
                      case rel => exact ⟨q + 1, by omega, by go_num, by rw [H2.out], hbq.trans ((below_drewN _ _ _).mono hbq.size)⟩
                      case measure => simp [intOf]; omega
                  · obtain rfl : q = U.length := by omega
                    rw [HJ.out, show lastInt (some j) = (j : Int) from rfl]
                    obtain ⟨gb, goff, rfl, hgb, hgc⟩ := HG6.out j hjl
                    have d2 : wr.cell? ⟨gb, goff + j, none⟩ = some (.string y) := by rw [hbq.cell (p := ⟨gb, goff + j, none⟩) hgb, ← HY.out]; exact hgc j hjl
                    have C := Lib.hid (refBegins_any y x wr)
                    rw [HBEG.out] at C
                    have hN9 := Lib.hid (hN5.out.below hbq)
                    have hU9 := Lib.hid (owns_below hU5.out hbq)
                    have hV9 := Lib.hid (owns_below hV5.out hbq)
                    have hb9 := hb5.trans (hbq.mono hB5)
                    have hB9 : B ≤ wr.heap.size := Nat.le_trans hB5 hbq.size
                    clear hgc hN5 hU5 hV5 hb5 hB5 hbq d1 HG3 HG6
                    go_wp2_with fail
                    refine C.out.mono ?_
                    clear C
                    rintro e w9 ⟨rfl, rfl⟩
                    go_wp2_with fail
                    go_roundw
                    case rel => exact ⟨k + 1, n', U, T, by omega, by go_num, by omega, by omega, HT2, hN9.out.later (by omega), hU9, hV9, HAP, hb9, hB9⟩
                    case measure => simp [intOf]; omega
      · obtain rfl : k = l.length := by omega
        go_wp2_with fail
        go_ret
        exact ⟨rfl, hb1.trans (hb.mono hb1B)⟩
  · go_wp2_with fail
    go_ret
    exact ⟨rfl, hb1⟩
end Go.Proofs.YtpafddeakanopaaDoor
