/- chandlerylaw2.netted, LongActs: contracts. -/
import Derived.Test.YtpafddeakanopaaDoorNetDo
import Derived.IntWalk
namespace Go.Proofs.YtpafddeakanopaaDoor
open Go Go.RowKit

/-- Acts that came in. -/
def ARow (w : World) (v : Value) (l : List ActB) : Prop :=
  ∃ ao cap, v = .slice ao l.length cap ∧ l.length ≤ cap ∧ cap ≤ maxLen ∧ (∀ i, i < l.length → ∃ b off, ao = some ⟨b, off, none⟩ ∧ b < w.heap.size ∧
    ∀ k, (hk : k < l.length) → w.cell? ⟨b, off + k * 5, none⟩ = some (.string l[k].kind) ∧ w.cell? ⟨b, off + k * 5 + 1, none⟩ = some (.string l[k].url) ∧ w.cell? ⟨b, off + k * 5 + 2, none⟩ = some (.string l[k].s) ∧ w.cell? ⟨b, off + k * 5 + 3, none⟩ = some (.int .i64 l[k].n) ∧ w.cell? ⟨b, off + k * 5 + 4, none⟩ = some (.bool l[k].on) ∧ -9223372036854775808 ≤ l[k].n ∧ l[k].n ≤ 9223372036854775807)
theorem ARow.ext {w w' : World} {v : Value} {l : List ActB} (h : ARow w v l) (hb : Below w.heap.size w w') : ARow w' v l := by
  obtain ⟨ao, cap, h1, h2, h3, h4⟩ := h
  refine ⟨ao, cap, h1, h2, h3, fun i hi => ?_⟩
  obtain ⟨b, off, e, hbl, hc⟩ := h4 i hi
  refine ⟨b, off, e, Nat.lt_of_lt_of_le hbl hb.size, fun k hk => ?_⟩
  obtain ⟨q0, q1, q2, q3, q4, q5⟩ := hc k hk
  exact ⟨by rw [hb.cell (p := ⟨b, off + k * 5, none⟩) hbl]; exact q0, by rw [hb.cell (p := ⟨b, off + k * 5 + 1, none⟩) hbl]; exact q1, by rw [hb.cell (p := ⟨b, off + k * 5 + 2, none⟩) hbl]; exact q2,
    by rw [hb.cell (p := ⟨b, off + k * 5 + 3, none⟩) hbl]; exact q3, by rw [hb.cell (p := ⟨b, off + k * 5 + 4, none⟩) hbl]; exact q4, q5⟩
def SmallA (a : ActB) : Prop := a.url.size ≤ 120 ∧ (a.s.size ≤ 2000 ∨ a.s.size = 20001)
/-- What LongActs answers. -/
def LongPost (l : List ActB) (most : Nat) (w : World) (e : Ending) (w' : World) : Prop :=
  ((e = .returned (.int .i64 0) ∧ l.length ≤ most ∧ Hid (∀ k, (hk : k < l.length) → SmallA l[k])) ∨ e = .returned (.int .i64 1)) ∧ w' = w

set_option maxHeartbeats 1000000 in
set_option maxRecDepth 100000 in
theorem longActs_any (v : Value) (l : List ActB) (most : Nat) (w : World) (hm : most ≤ 1000000) (hv : ARow w v l) : Calls Tryd.prog 31 #[v, .int .i64 most] w (LongPost l most w) := by
  obtain ⟨ao, cap, rfl, h1, h2, H3⟩ := hv
  have HM := Lib.hid H3
  clear H3
  go_enter Tryd.func31, Tryd.ntmps31
  by_cases hl : l.length ≤ most
  · have hml : decide (most < l.length) = false := decide_eq_false (by omega)
    go_wp2_with fail
    go_loopw [5] (fun i wr => ∃ k : Nat, k ≤ l.length ∧ i = .int .i64 k ∧ Hid (∀ j, (hj : j < l.length) → j < k → SmallA l[j]) ∧ wr = w) (fun i _ => l.length - (intOf i).toNat)
    case atStart => exact ⟨0, Nat.zero_le _, rfl, (fun j _ hj => absurd hj (Nat.not_lt_zero _)), rfl⟩
    case round =>
      obtain ⟨k, hk, rfl, HJ, rfl⟩ := hrel
      by_cases hlt : k < l.length
      · obtain ⟨b, off, rfl, hbl, hcell⟩ := HM.out k hlt
        obtain ⟨q0, q1, q2, q3, q4, q5⟩ := hcell k hlt
        clear hcell q0 q3 q4 q5
        obtain ⟨a, ha⟩ : ∃ a, l[k] = a := ⟨_, rfl⟩
        rw [ha] at q1 q2
        have HA := Lib.hid ha
        clear ha
        by_cases hu : a.url.size ≤ 120
        · by_cases hs : a.s.size ≤ 2000
          · have H2 : Hid (∀ j, (hj : j < l.length) → j < k + 1 → SmallA l[j]) := by
              intro j hj hjk
              by_cases hjk' : j < k
              · exact HJ.out j hj hjk'
              · obtain rfl : j = k := by omega
                rw [HA.out]
                exact ⟨hu, .inl hs⟩
            clear HJ
            go_wp2_with fail
            go_roundw
            case rel => first | exact ⟨k + 1, by omega, by go_num, H2⟩ | exact ⟨k + 1, by omega, by go_num, H2, trivial⟩
            case measure => simp [intOf]; omega
          · by_cases hs2 : a.s.size ≤ 20000
            · have hne : ((a.s.size : Int) != 20001) = true := by rw [bne_iff_ne]; omega
              go_wp2_with fail
              go_ret
              exact ⟨.inr rfl, rfl⟩
            · by_cases hs3 : a.s.size ≤ 20001
              · have hne : ((a.s.size : Int) != 20001) = false := by rw [bne_eq_false_iff_eq]; omega
                have H2 : Hid (∀ j, (hj : j < l.length) → j < k + 1 → SmallA l[j]) := by
                  intro j hj hjk
                  by_cases hjk' : j < k
                  · exact HJ.out j hj hjk'
                  · obtain rfl : j = k := by omega
                    rw [HA.out]
                    exact ⟨hu, .inr (by omega)⟩
                clear HJ
                go_wp2_with fail
                go_roundw
                case rel => first | exact ⟨k + 1, by omega, by go_num, H2⟩ | exact ⟨k + 1, by omega, by go_num, H2, trivial⟩
                case measure => simp [intOf]; omega
              · have hne : ((a.s.size : Int) != 20001) = true := by rw [bne_iff_ne]; omega
                go_wp2_with fail
                go_ret
                exact ⟨.inr rfl, rfl⟩
        · go_wp2_with fail
          go_ret
          exact ⟨.inr rfl, rfl⟩
      · obtain rfl : k = l.length := by omega
        have H2 : Hid (∀ k, (hk : k < l.length) → SmallA l[k]) := fun j hj => HJ.out j hj hj
        clear HJ
        go_wp2_with fail
        go_ret
        exact ⟨.inl ⟨rfl, hl, H2⟩, rfl⟩
  · go_wp2_with fail
    go_ret
    exact ⟨.inr rfl, rfl⟩

theorem stepN_off (n : NetB) (a : ActB) : (stepN n a).off.length ≤ n.off.length + 1 := by
  have h1 : (putN n a.url a.s).2.off = n.off := by
    unfold putN
    split
    · rfl
    · split
      · rfl
      · split
        · rfl
        · split <;> rfl
  have h2 : (hostN n a.url a.on).2.off.length ≤ n.off.length + 1 := by
    unfold hostN
    split
    · show (List.filter _ n.off ++ _).length ≤ _
      rw [List.length_append]
      exact Nat.add_le_add (List.length_filter_le _ _) (by split <;> simp)
    · exact Nat.le_succ _
  have h3 : (cutN n a.url a.n).2.off = n.off := by
    unfold cutN
    split
    · rfl
    · split <;> rfl
  have h4 : (getN n a.url).2.2.off = n.off := by
    unfold getN
    split
    · rfl
    · split
      · rfl
      · split <;> rfl
  unfold stepN
  split
  · rw [h1]; exact Nat.le_succ _
  · split
    · exact h2
    · split
      · rw [h3]; exact Nat.le_succ _
      · rw [h4]; exact Nat.le_succ _
theorem gE_lt {E : Nat → Addr} {w : World} (h : Env E w) (k : Nat) (hk : k < 13) : gE k < w.heap.size := Lib.lt_of_cell (h.err k hk)

def urlAx : ByteArray := ⟨#[104, 116, 116, 112, 58, 47, 47, 97, 47, 120]⟩
def helloB : ByteArray := ⟨#[104, 101, 108, 108, 111]⟩
theorem put_ax : putN ⟨[], [], 0⟩ urlAx helloB = (0, ⟨[⟨urlAx, helloB, -1⟩], [], 0⟩) := by
  unfold putN
  rw [show linkE (bl urlAx) = 0 by decide]
  rfl
theorem cut_ax : cutN ⟨[⟨urlAx, helloB, -1⟩], [], 0⟩ urlAx 3 = (0, ⟨[⟨urlAx, helloB, 3⟩], [], 0⟩) := by
  simp [cutN, siteAt, setCut]
theorem get_ax : getN ⟨[⟨urlAx, helloB, 3⟩], [], 0⟩ urlAx = ([104, 101, 108], 0, ⟨[⟨urlAx, helloB, 3⟩], [], 1⟩) := by
  unfold getN
  rw [show linkE (bl urlAx) = 0 by decide]
  simp [siteAt]
  decide

set_option maxHeartbeats 1000000 in
set_option maxRecDepth 100000 in
theorem netted_any {E : Nat → Addr} (w : World) (hE : NEnv E w) : Calls Tryd.prog 30 #[] w fun e w' => e = .returned (.bool true) ∧ Below w.heap.size w w' := by
  have HE := Lib.hid hE
  have HG := Lib.hid (gE_lt hE.1)
  clear hE
  have C := Lib.hid (netNew_any w)
  go_enter Tryd.func30, Tryd.ntmps30
  go_wp2_with fail
  refine C.out.mono ?_
  clear C
  rintro e w1 ⟨b, rfl, HN1, hb1⟩
  have C := netPut_any w.heap.size b 0 ⟨[], [], 0⟩ urlAx helloB w1 HN1 (by decide) (by decide) hb1.size (HE.out.ext hb1)
  rw [put_ax] at C
  unfold NetPost at C
  dsimp only at C
  rw [show errV E 0 = .nilIface from rfl] at C
  have HC := Lib.hid C
  clear C
  go_wp2_with fail
  refine HC.out.mono ?_
  clear HC HN1
  rintro e w2 ⟨rfl, HN2, HK2⟩
  have hb2 := hb1.trans HK2.below
  have C := netCut_any w.heap.size b 1 ⟨[⟨urlAx, helloB, -1⟩], [], 0⟩ urlAx 3 w2 HN2 (by decide) (by decide) (by decide) hb2.size (HE.out.ext hb2)
  rw [cut_ax] at C
  unfold NetPost at C
  dsimp only at C
  rw [show errV E 0 = .nilIface from rfl] at C
  have HC := Lib.hid C
  clear C HN2
  go_wp2_with fail
  refine HC.out.mono ?_
  clear HC
  rintro e w3 ⟨rfl, HN3, HK3⟩
  have hb3 := hb2.trans HK3.below
  have C := netGet_any w.heap.size b 2 ⟨[⟨urlAx, helloB, 3⟩], [], 0⟩ urlAx w3 HN3 (by decide) (by decide) hb3.size (HE.out.ext hb3) HG.out
  rw [get_ax] at C
  unfold GetPost at C
  dsimp only at C
  rw [show errV E 0 = .nilIface from rfl] at C
  have HC := Lib.hid C
  clear C HN3
  go_wp2_with fail
  refine HC.out.mono ?_
  clear HC
  rintro e w4 ⟨x, rfl, HX, HN4, HK4⟩
  obtain rfl : x = ⟨#[104, 101, 108]⟩ := bl_eq HX.out
  have hb4 := hb3.trans HK4.below
  have HC := Lib.hid (netCalls_any w.heap.size b 3 _ w4 HN4)
  clear HX
  go_wp2_with fail
  refine HC.out.mono ?_
  rintro e w5 ⟨rfl, rfl⟩
  go_wp2_with fail
  go_ret
  exact ⟨rfl, hb4⟩
end Go.Proofs.YtpafddeakanopaaDoor
