/- chandlerylaw2.NetActs: the walk. -/
import Derived.Test.YtpafddeakanopaaDoorNetParts
namespace Go.Proofs.YtpafddeakanopaaDoor
open Go Go.RowKit

theorem rnet_new (w : World) (B : Nat) (hB : B ≤ w.heap.size) : RNetIs (w.alloc (.cells #[.slice none 0 0, .slice none 0 0, .int .i64 0] 74)) B w.heap.size ⟨[], [], 0⟩ :=
  ⟨.slice none 0 0, .slice none 0 0, hB, heap_alloc_new _ _, World.ownsRow_nil _ _ _ _, World.ownsRow_nil _ _ _ _⟩

set_option maxHeartbeats 1000000 in
set_option maxRecDepth 100000 in
theorem netActs_walk {E : Nat → Addr} {w : World} (hE : NEnv E w) (v : Value) (l : List ActB) (hv : ARow w v l) :
    Calls Tryd.prog 7 #[v] w fun e w' => e = .returned (.bool true) ∧ Below w.heap.size w w' := by
  have HE := Lib.hid hE
  have C := Lib.hid (netted_any w hE)
  have hAv := Lib.hid hv
  have hv2 := hv
  obtain ⟨ao, cap, rfl, h1, h2, H3⟩ := hv2
  have HM := Lib.hid H3
  clear H3 hE hv
  go_enter Tryd.func7, Tryd.ntmps7
  go_wp2_with fail
  refine C.out.mono ?_
  clear C
  rintro e w1 ⟨rfl, hb1⟩
  have C := Lib.hid (longActs_any _ l 100 w1 (by decide) (hAv.out.ext hb1))
  go_wp2_with fail
  refine C.out.mono ?_
  clear C
  rintro e w2 ⟨⟨rfl, hl, HS⟩ | rfl, rfl⟩
  · have C := Lib.hid (netNew_any w2)
    go_wp2_with fail
    refine C.out.mono ?_
    clear C
    rintro e w3 ⟨b, rfl, HN3, hb3⟩
    have HF := Lib.hid (fun (W : World) (hW : Below w2.heap.size w2 W) => HE.out.ext (hb1.trans (hW.mono hb1.size)))
    have HG := Lib.hid (gE_lt (HF.out w2 (Below.refl _ _)).1)
    have hR4 := rnet_new w3 w2.heap.size hb3.size
    have hal : Below w3.heap.size w3 (w3.alloc (.cells #[.slice none 0 0, .slice none 0 0, .int .i64 0] 74)) := (Below.refl _ _).alloc (Nat.le_refl _) _
    have HN4 := HN3.below hal
    have hb4 := hb3.trans (hal.mono hb3.size)
    obtain ⟨m, hm⟩ : ∃ m, w3.heap.size = m := ⟨_, rfl⟩
    obtain ⟨w4, hw4⟩ : ∃ w4, w3.alloc (.cells #[.slice none 0 0, .slice none 0 0, .int .i64 0] 74) = w4 := ⟨_, rfl⟩
    rw [hw4] at hR4 HN4 hb4
    rw [hm] at hR4
    clear hal HN3
    go_wp2_with fail
    clear hw4
    go_loopw [6] (fun i wr => ∃ (k : Nat) (n : NetB), k ≤ l.length ∧ i = .int .i64 k ∧ n.off.length ≤ k ∧ Hid (NetIs wr w2.heap.size b n k) ∧ Hid (RNetIs wr w2.heap.size m n) ∧ Below w2.heap.size w2 wr) (fun i _ => l.length - (intOf i).toNat)
    case atStart => exact ⟨0, _, Nat.zero_le _, rfl, Nat.le_refl _, HN4, hR4, hb4⟩
    case round =>
      obtain ⟨k, n, hk, rfl, ho, HN, HR, hb⟩ := hrel
      by_cases hlt : k < l.length
      · obtain ⟨ab, aoff, rfl, habl, hcell⟩ := HM.out k hlt
        obtain ⟨q0, q1, q2, q3, q4, q5, q6⟩ := hcell k hlt
        have hsm := HS.out k hlt
        have hbw := hb1.trans (hb.mono hb1.size)
        rw [← hbw.cell (p := ⟨ab, aoff + k * 5, none⟩) habl] at q0
        rw [← hbw.cell (p := ⟨ab, aoff + k * 5 + 1, none⟩) habl] at q1
        rw [← hbw.cell (p := ⟨ab, aoff + k * 5 + 2, none⟩) habl] at q2
        rw [← hbw.cell (p := ⟨ab, aoff + k * 5 + 3, none⟩) habl] at q3
        rw [← hbw.cell (p := ⟨ab, aoff + k * 5 + 4, none⟩) habl] at q4
        clear hcell
        obtain ⟨a, ha⟩ : ∃ a, l[k] = a := ⟨_, rfl⟩
        rw [ha] at q0 q1 q2 q3 q4 q5 q6 hsm
        clear ha
        have C := Lib.hid (do_any w2.heap.size b m k n a wr HN.out HR.out (by omega) (by omega) (by have := hsm.1; omega) (by rcases hsm.2 with h | h <;> omega) ⟨q5, q6⟩ hb.size (fun W hW => HF.out W (hb.trans hW)) HG.out)
        have HO := Lib.hid (stepN_off n a)
        clear HN HR hsm q5 q6
        go_wp2_with fail
        refine C.out.mono ?_
        clear C
        rintro e w5 ⟨rfl, HN5, HR5, HK5⟩
        have hb5 := hb.trans HK5.below
        have hN5 := Lib.hid HN5
        have hR5 := Lib.hid HR5
        have hO5 := HO.out
        clear HN5 HR5 HK5 HO
        go_wp2_with fail
        go_roundw
        case rel => exact ⟨k + 1, stepN n a, by omega, by go_num, by omega, hN5, hR5, hb5⟩
        case measure => simp [intOf]; omega
      · obtain rfl : k = l.length := by omega
        go_wp2_with fail
        go_ret
        exact ⟨rfl, hb1.trans (hb.mono hb1.size)⟩
  · go_wp2_with fail
    go_ret
    exact ⟨rfl, hb1⟩
end Go.Proofs.YtpafddeakanopaaDoor
