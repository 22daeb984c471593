/- chandlerylaw3.FetchTells: the walk. -/
import Derived.Test.YtomceddfbfpjjaaGreatDoorKFetches
import Derived.Test.YtomceddfbfpjjaaGreatDoorKHeldEnds
import Derived.Test.YtomceddfbfpjjaaGreatDoorKRefTreeUp
import Derived.Deep.RegionHeld3
namespace Go.Proofs.YtomceddfbfpjjaaGreatDoor
open Go Go.RowKit

theorem rnet_at2 (w : World) (B : Nat) (hB : B ≤ w.heap.size) : RNetIs (w.alloc (.cells #[.slice none 0 0, .slice none 0 0, .int .i64 0] 37)) B w.heap.size ⟨[], [], 0⟩ :=
  ⟨.slice none 0 0, .slice none 0 0, hB, heap_alloc_new _ _, World.ownsRow_nil _ _ _ _, World.ownsRow_nil _ _ _ _⟩
theorem kh_fault (cs : Array Value) (fz : Nat × Nat) : ¬ HeldRow (.cells cs 50 fz) := by
  rintro (⟨_, _, h⟩ | ⟨_, _, h⟩)
  · cases h
  · injection h with _ h _; exact absurd h (by decide)
theorem FetchFrame.fault {nb hb Bn Bh q : Nat} {w w' : World} {c a : Int} (h : FetchFrame nb hb Bn Bh w w') (hq : FaultAt w q c a) : FaultAt w' q c a := by
  obtain ⟨w5, h1, h2⟩ := h
  have h5 : FaultAt w5 q c a := h1.toKeeps.keep q _ hq (kn_fault _ _)
  exact h2.toKeeps.keep q _ h5 (kh_fault _ _)
theorem NetIs.faulted {w : World} {B b t g : Nat} {n : NetB} {c a : Int} (h : NetIs w B b n t) (hg : FaultAt w g c a) (x y : Value) : NetIs ((w.setCell ⟨g, 0, none⟩ x).setCell ⟨g, 1, none⟩ y) B b n t := h.keeps (fault_keeps hg x y) kf_map kf_net
theorem HeldIs.faulted {w : World} {B b g : Nat} {n : HeldB} {c a : Int} (h : HeldIs w B b n) (hg : FaultAt w g c a) (x y : Value) : HeldIs ((w.setCell ⟨g, 0, none⟩ x).setCell ⟨g, 1, none⟩ y) B b n := h.keeps (fault_keeps hg x y) kf_map kf_held kf_int kf_file
theorem FOwn.faulted {w : World} {B g : Nat} {v : Value} {l : List FileB} {c a : Int} (h : FOwn w B v l) (hg : FaultAt w g c a) (x y : Value) : FOwn ((w.setCell ⟨g, 0, none⟩ x).setCell ⟨g, 1, none⟩ y) B v l := (fault_keeps hg x y).owns h kf_file
theorem TOwn.faulted {w : World} {B g : Nat} {v : Value} {l : List ByteArray} {c a : Int} (h : TOwn w B v l) (hg : FaultAt w g c a) (x y : Value) : TOwn ((w.setCell ⟨g, 0, none⟩ x).setCell ⟨g, 1, none⟩ y) B v l := (fault_keeps hg x y).owns h kf_str
theorem faulted_so (er : Er) (c a : Int) (h1 : (er.code : Int) = c) (h2 : er.at?.getD (-1) = a) : faultB3 er c a = true := by subst h1 h2; simp [faultB3]
theorem NetIs.calls_le {w : World} {B b t : Nat} {n : NetB} (h : NetIs w B b n t) : n.calls ≤ t := by
  obtain ⟨_, _, _, _, _, _, _, hA⟩ := h
  exact hA.hcl
theorem IsErr.plain {E : Nat → Addr} {w : World} {v : Value} {er : Er} (h : IsErr E w v er) (hat : er.at? = none) (w' : World) : IsErr E w' v er := by
  rcases h with h | h | ⟨k, a, b, _, e, _⟩
  · exact .inl h
  · exact .inr (.inl h)
  · rw [e] at hat; cases hat
theorem tryF_lenB {n : NetB} {l : List RuleL} {x : WantB} : (tryF n l x).2.1.length ≤ 1000000 := by have := (right_len (tryF_few (n := n) (l := l) (w := x))).1; omega
theorem fetchF_len {hd : HeldB} {n : NetB} {l : List RuleL} {x : WantB} (k : HeldOk hd) : (fetchF hd n l x).2.1.length ≤ 1000000 := by
  unfold fetchF
  split
  · exact Nat.zero_le _
  · split
    · rename_i t ht
      have := (right_len (held_right k ht).1).1
      show t.length ≤ _
      omega
    · exact tryF_lenB

set_option maxHeartbeats 8000000 in
set_option maxRecDepth 100000 in
theorem fetchTells_walk {E : Nat → Addr} {w : World} (hE : FtEnv E w) (va vr : Value) (most : Int) (l : List ActB) (rs : List RuleB) (x : WantB) (hva : ARow w va l) (hvr : RulesRow w vr rs) :
    Calls Tryz.prog 3 #[va, .int .i64 most, vr, .agg #[.string x.name, .string x.url, .string x.kind, .int .i64 x.strip, .int .i64 x.sum]] w fun e w' => e = .returned (.bool true) ∧ Below w.heap.size w w' := by
  obtain ⟨px, hpx⟩ : ∃ px, w.heap.size = px := ⟨_, rfl⟩
  obtain ⟨wx, hwx⟩ : ∃ wx, w.alloc (.cells #[.string x.name, .string x.url, .string x.kind, .int .i64 x.strip, .int .i64 x.sum] 25) = wx := ⟨_, rfl⟩
  have hbx : Below w.heap.size w wx := by rw [← hwx]; exact (Below.refl _ _).alloc (Nat.le_refl _) _
  have BX := Lib.hid (show WBox wx px x by rw [← hwx, ← hpx]; exact WBox.new w x)
  have HB := Lib.hid hbx
  have HE := Lib.hid hE
  have HAv := Lib.hid hva
  have HRv := Lib.hid hvr
  have HWX := Lib.hid hwx
  have HPX := Lib.hid hpx
  have C := Lib.hid (fetched_any wx (hE.ext hbx))
  obtain ⟨ao, cap, rfl, h1, h2, H3⟩ := id hva
  have HM := Lib.hid H3
  clear H3 hE hva hvr hpx hwx hbx
  go_enter Tryz.func3, Tryz.ntmps3
  go_upto_region 1 with fail
  rw [HWX.out, HPX.out]
  go_wp2_with fail
  refine C.out.mono ?_
  clear C
  rintro e w1 ⟨rfl, hb1⟩
  have B1 := Lib.hid (HB.out.trans (hb1.mono HB.out.size))
  have BX1 := Lib.hid (BX.out.ext hb1)
  have C := Lib.hid (longActs_any _ l 40 w1 (by decide) (HAv.out.ext B1.out))
  clear hb1 BX
  go_wp2_with fail
  refine C.out.mono ?_
  clear C
  rintro e w2 ⟨⟨rfl, hl, HS⟩ | rfl, rfl⟩
  rotate_left
  · go_wp2_with fail
    go_ret
    exact ⟨rfl, B1.out⟩
  obtain ⟨c0, c1, c2, c3, c4⟩ := BX1.out.cells
  have C := Lib.hid (longAsk_any vr rs x w2 (HRv.out.ext B1.out))
  go_wp2_with fail
  refine C.out.mono ?_
  clear C c0 c1 c2 c3 c4
  intro e w3 hpost
  unfold LAskPost at hpost
  obtain ⟨⟨r, rfl, HL⟩, hb3⟩ := hpost
  have B3 := Lib.hid (B1.out.trans (hb3.mono B1.out.size))
  have BX3 := Lib.hid (BX1.out.ext hb3)
  clear hb3 B1 BX1
  cases r with
  | true =>
    go_wp2_with fail
    go_ret
    exact ⟨rfl, B3.out⟩
  | false =>
  obtain ⟨hl12, hsm, hask⟩ := HL.out rfl
  have HSM := Lib.hid hsm
  have HAS := Lib.hid hask
  have C := Lib.hid (netNew_any w3)
  clear HL hsm hask
  go_wp2_with fail
  refine C.out.mono ?_
  clear C
  rintro e w4 ⟨b, rfl, HN4, hb4⟩
  obtain ⟨B, hB⟩ : ∃ B, w3.heap.size = B := ⟨_, rfl⟩
  rw [hB] at HN4
  have hpB : px < B := by rw [← hB]; exact BX3.out.lt
  have hwB : w.heap.size ≤ B := by rw [← hB]; exact B3.out.size
  have hb4B : Below B w3 w4 := by rw [← hB]; exact hb4
  have HEB : Hid (∀ W, Below B w3 W → FtEnv E W) := fun W hW => HE.out.ext (B3.out.trans (hW.mono hwB))
  have HG : Hid (∀ k, k < 13 → gE k < B) := fun k hk => by have := gE_lt (HE.out.ext B3.out).env k hk; rw [hB] at this; exact this
  have C := Lib.hid (heldNew_any most w4)
  have HN4h := Lib.hid HN4
  clear hb4 HN4
  go_wp2_with fail
  refine C.out.mono ?_
  clear C
  rintro e w5 ⟨hb, rfl, HH5, hb5⟩
  obtain ⟨Bh, hBh⟩ : ∃ Bh, w4.heap.size = Bh := ⟨_, rfl⟩
  rw [hBh] at HH5
  have hnl := HN4h.out.lt
  have hhl := HH5.le
  have hap : b + 2 ≤ hb := by omega
  have hBBh : B ≤ Bh := by rw [← hBh]; exact below_size hb4B (by rw [hB]; exact Nat.le_refl _)
  have HN5 := HN4h.out.below hb5
  have hR6 := rnet_at2 w5 B (Nat.le_trans hBBh (by rw [← hBh]; exact hb5.size))
  have hal : Below w5.heap.size w5 (w5.alloc (.cells #[.slice none 0 0, .slice none 0 0, .int .i64 0] 37)) := (Below.refl _ _).alloc (Nat.le_refl _) _
  have HN6 := HN5.below hal
  have HH6 := HH5.below hal
  have hb6 : Below B w3 (w5.alloc (.cells #[.slice none 0 0, .slice none 0 0, .int .i64 0] 37)) := (hb4B.trans (hb5.mono (by rw [hBh]; exact hBBh))).trans (hal.mono (Nat.le_trans hBBh (by rw [← hBh]; exact hb5.size)))
  have hBh6 : Bh ≤ (w5.alloc (.cells #[.slice none 0 0, .slice none 0 0, .int .i64 0] 37)).heap.size := Nat.le_trans (by rw [← hBh]; exact hb5.size) hal.size
  obtain ⟨m, hm⟩ : ∃ m, w5.heap.size = m := ⟨_, rfl⟩
  obtain ⟨w6, hw6⟩ : ∃ w6, w5.alloc (.cells #[.slice none 0 0, .slice none 0 0, .int .i64 0] 37) = w6 := ⟨_, rfl⟩
  rw [hw6] at hR6 HN6 hb6 HH6 hBh6
  rw [hm] at hR6
  have HW6 := Lib.hid hw6
  have HMm := Lib.hid hm
  have HBE := Lib.hid hB
  clear hal HN5 hb5 HN4h hb4B hnl hhl hm hB hBh hw6 HH5
  go_upto_region 9 with fail
  rw [HW6.out, HMm.out]
  have C := Lib.hid (refNewHeld_any w3 most w6)
  have HN6h := Lib.hid HN6
  have HR6h := Lib.hid hR6
  have HH6h := Lib.hid HH6
  clear HN6 hR6 HH6
  go_wp2_with fail
  refine C.out.mono ?_
  clear C HW6 HMm
  rintro e w7 ⟨kb, rfl, HK7, hb7⟩
  obtain ⟨Bk, hBk⟩ : ∃ Bk, w6.heap.size = Bk := ⟨_, rfl⟩
  rw [hBk] at HK7
  have hBhk : Bh ≤ Bk := by rw [← hBk]; exact hBh6
  have hBk7 : Bk ≤ w7.heap.size := by rw [← hBk]; exact hb7.size
  have HN7 := HN6h.out.below hb7
  have HR7 := HR6h.out.below hb7
  have HH7 := HH6h.out.below hb7
  have hb7B : Below B w3 w7 := hb6.trans (hb7.mono (Nat.le_trans hBBh hBh6))
  clear hb7 hBk HN6h HR6h HH6h hb6 hBh6
  go_wp2_with fail
  go_loopw [14] (fun i wr => ∃ (k : Nat) (n : NetB), k ≤ l.length ∧ i = .int .i64 k ∧ n.off.length ≤ k ∧ Hid (NetIs wr B b n k) ∧ Hid (RNetIs wr B m n) ∧ Hid (HeldIs wr Bh hb (newH most)) ∧ Hid (RHeldIs w3 wr Bk kb (newH most)) ∧ Bk ≤ wr.heap.size ∧ Below B w3 wr) (fun i _ => l.length - (intOf i).toNat)
  case atStart => exact ⟨0, _, Nat.zero_le _, rfl, Nat.le_refl _, HN7, HR7, HH7, HK7, hBk7, hb7B⟩
  case round =>
    clear HN7 HR7 HH7 HK7 hBk7 hb7B
    obtain ⟨k, n, hk, rfl, ho, HN, HR, HH, HK, hBkr, hbr⟩ := hrel
    have hBhr := Nat.le_trans hBhk hBkr
    have hBr : B ≤ wr.heap.size := Nat.le_trans hBBh hBhr
    have hbw := B3.out.trans (hbr.mono hwB)
    have HBW := Lib.hid hbw
    by_cases hlt : k < l.length
    · obtain ⟨ab, aoff, rfl, habl, hcell⟩ := HM.out k hlt
      obtain ⟨q0, q1, q2, q3, q4, q5, q6⟩ := hcell k hlt
      have hsm := HS.out k hlt
      rw [← hbw.cell (p := ⟨ab, aoff + k * 5, none⟩) habl] at q0
      rw [← hbw.cell (p := ⟨ab, aoff + k * 5 + 1, none⟩) habl] at q1
      rw [← hbw.cell (p := ⟨ab, aoff + k * 5 + 2, none⟩) habl] at q2
      rw [← hbw.cell (p := ⟨ab, aoff + k * 5 + 3, none⟩) habl] at q3
      rw [← hbw.cell (p := ⟨ab, aoff + k * 5 + 4, none⟩) habl] at q4
      clear hcell
      obtain ⟨a, ha⟩ : ∃ a, l[k] = a := ⟨_, rfl⟩
      rw [ha] at q0 q1 q2 q3 q4 q5 q6 hsm
      clear ha
      have C := Lib.hid (do_any B b m k n a wr HN.out HR.out (by omega) (by omega) (by have := hsm.1; omega) (by rcases hsm.2 with h | h <;> omega) ⟨q5, q6⟩ hBr (fun W hW => (HEB.out W (hbr.trans hW)).net) HG.out)
      have HO := Lib.hid (stepN_off n a)
      clear HN HR hsm q5 q6 hbw
      go_wp2_with fail
      refine C.out.mono ?_
      clear C
      rintro e w7 ⟨rfl, HN7, HR7, HK7⟩
      have hK7 := Lib.hid (HK.out.betw HK7)
      have hb7 := hbr.trans HK7.below
      have hN7 := Lib.hid HN7
      have hR7 := Lib.hid HR7
      have hH7 := Lib.hid (HH.out.betw HK7 hap)
      have hO7 := HO.out
      have hB7 := Nat.le_trans hBkr HK7.below.size
      clear HN7 HR7 HK7 HO HH HK q0 q1 q2 q3 q4
      go_wp2_with fail
      go_roundw
      case rel => exact ⟨k + 1, stepN n a, by omega, by go_num, by omega, hN7, hR7, hH7, hK7, hB7, hb7⟩
      case measure => simp [intOf]; omega
    · obtain rfl : k = l.length := by omega
      obtain ⟨wo, hwo⟩ : ∃ wo, wo = wr := ⟨_, rfl⟩
      subst hwo
      have KB : Hid (∀ W, Below B w3 W → W.cell? ⟨px, 0, none⟩ = some (.string x.name) ∧ W.cell? ⟨px, 1, none⟩ = some (.string x.url) ∧ W.cell? ⟨px, 2, none⟩ = some (.string x.kind) ∧ W.cell? ⟨px, 3, none⟩ = some (.int .i64 x.strip) ∧ W.cell? ⟨px, 4, none⟩ = some (.int .i64 x.sum)) := fun W hW => WBox.cells (show WBox W px x from (hW.block px hpB).trans BX3.out)
      have HOR : Hid (∀ W, Below B w3 W → Calls Tryz.prog 13 #[vr] W fun e w' => (∃ ov, e = .returned ov ∧ Hid (RulesRow w' ov rs)) ∧ Below W.heap.size W w') := fun W hW => by
        refine (ownRules_any vr rs W (by omega) HSM.out (HRv.out.ext (B3.out.trans (hW.mono hwB)))).mono ?_
        rintro e w' ⟨⟨ov, rfl, hO⟩, hb⟩
        exact ⟨⟨ov, rfl, hO.out.row⟩, hb⟩
      obtain ⟨T, hT⟩ : ∃ T, tryF n (rs.map ruleOf) x = T := ⟨_, rfl⟩
      have hcl := HN.out.calls_le
      have hok := HN.out.1
      have HOK := Lib.hid hok
      have hoffT := tryF_off n (rs.map ruleOf) x
      have hlT := @tryF_lenB n (rs.map ruleOf) x
      rw [hT] at hoffT hlT
      obtain ⟨er, fs, ls, n1⟩ := T
      dsimp only at hoffT hlT
      have HTRY : Hid (∀ (W : World) (ov : Value), NetIs W B b n l.length → RulesRow W ov rs → Below B w3 W → B ≤ W.heap.size → Calls Tryz.prog 12 #[.pointer (some ⟨b, 0, none⟩), ov, .agg #[.string x.name, .string x.url, .string x.kind, .int .i64 x.strip, .int .i64 x.sum]] W (TryPost E B b l.length (er, fs, ls, n1) W)) := fun W ov h1 h2 h3 h4 => by
        have := fetchTry_any B b l.length n ov rs x W h1 (by omega) (by omega) HSM.out HAS.out h2 h4 (fun W' hW' => HEB.out W' (h3.trans hW')) HG.out
        rw [hT] at this
        exact this
      have HRT := Lib.hid hT
      obtain ⟨c0, c1, c2, c3, c4⟩ := KB.out wo hbr
      have hd1 : Below B wo (wo.drew) := below_drewN _ wo 1
      have HND : Hid (NetIs wo.drew B b n l.length) := HN.out.below (below_drewN _ _ 1)
      have hBrd : B ≤ wo.drew.heap.size := hBr
      clear hT hok hbw
      go_wp2_with fail
      go_region_held3 (fun W : World => W.cell? ⟨px, 0, none⟩ = some (.string x.name) ∧ W.cell? ⟨px, 1, none⟩ = some (.string x.url) ∧ W.cell? ⟨px, 2, none⟩ = some (.string x.kind) ∧ W.cell? ⟨px, 3, none⟩ = some (.int .i64 x.strip) ∧ W.cell? ⟨px, 4, none⟩ = some (.int .i64 x.sum)) (first | go_keep | exact KB.out _ hb8B | exact KB.out _ hb7B)
        (first
          | (go_at_call 13; refine (HOR.out _ (hbr.trans hd1)).mono ?_; rintro e w7 ⟨⟨ov, rfl, HOV⟩, hb7⟩; have HN7 := HND.out.below hb7; have hb7B := (hbr.trans hd1).trans (hb7.mono hBrd); have hB7 := Nat.le_trans hBrd hb7.size)
          | (go_at_call 12; refine (HTRY.out _ _ HN7 HOV.out hb7B hB7).mono ?_; rintro e w8 ⟨fv, lv, ev, zs, rfl, HI, HF, HL8, HZ, HN8, HK8⟩; have hb8B := hb7B.trans HK8.out.below)
          | fail)
      all_goals
        have hb78 : Below wo.heap.size wo w7 := (below_drewN _ wo 1).trans (hb7.mono (Nat.le_refl _))
        have HR8 := Lib.hid ((HR.out.below hb78).keepN HK8.out.toKeeps)
        have HH8 := Lib.hid ((HH.out.below hb78).apartN HK8.out hap)
        have HKK8 := Lib.hid ((HK.out.below hb78).keepN HK8.out.toKeeps)
        have hBk8 : Bk ≤ w8.heap.size := Nat.le_trans hBkr (Nat.le_trans hb78.size HK8.out.below.size)
        have hB8 : B ≤ w8.heap.size := Nat.le_trans hBr (Nat.le_trans hb78.size HK8.out.below.size)
        have HB8 := Lib.hid hb8B
        have HW8 := Lib.hid (B3.out.trans (hb8B.mono hwB))
        clear HR HH HK HN HND HOV HN7 hb7 hb78 hb7B HK8 c0 c1 c2 c3 c4 HTRY hd1 hBrd
        obtain ⟨c0, c1, c2, c3, c4⟩ := KB.out w8 HB8.out
        have C := refTry_any B m n vr rs x w8 HR8.out HOK.out (by omega) (by omega) (by omega) HSM.out HAS.out (HRv.out.ext HW8.out) hB8
        rw [HRT.out] at C
        unfold RTryPost at C
        dsimp only at C
        obtain ⟨c, hc⟩ : ∃ c : Int, (er.code : Int) = c := ⟨_, rfl⟩
        obtain ⟨a, ha⟩ : ∃ a : Int, er.at?.getD (-1) = a := ⟨_, rfl⟩
        rw [show erA er = #[.int .i64 c, .int .i64 a] by unfold erA; rw [hc, ha]] at C
        have HC := Lib.hid C
        have HFA := Lib.hid (faulted_so er c a hc ha)
        clear C hc ha
        go_wp2_with fail
        refine HC.out.mono ?_
        clear HC c0 c1 c2 c3 c4
        rintro e w9 ⟨fv2, lv2, zs2, rfl, HF2, HL2, HZ2, HR9, HK9, HPL⟩
        have HN9 := Lib.hid (HN8.out.keepR HK9.out)
        have HH9 := Lib.hid (HH8.out.keepR HK9.out)
        have HKK9 := Lib.hid (HKK8.out.keepR HK9.out)
        have HF9 : Hid (FOwn w9 0 fv fs) := FOwn.low (HK9.out.owns HF.out kr_file) (Nat.zero_le _)
        have HL9 : Hid (TOwn w9 0 lv zs) := TOwn.low (HK9.out.owns HL8.out kr_str) (Nat.zero_le _)
        have HF92 : Hid (FOwn w9 0 fv2 fs) := FOwn.low HF2.out (Nat.zero_le _)
        have HL92 : Hid (TOwn w9 0 lv2 zs2) := TOwn.low HL2.out (Nat.zero_le _)
        have hb9B : Below B w3 w9 := HB8.out.trans HK9.out.below
        have hBk9 : Bk ≤ w9.heap.size := Nat.le_trans hBk8 HK9.out.below.size
        have HI9 : Hid (IsErr E w9 ev er) := by
          cases hat : er.at? with
          | none => exact HI.out.plain hat w9
          | some a' => exact HI.out.ext (HPL.out a' hat)
        clear HPL HN8 HH8 HKK8 HF HL8 HF2 HL2 HK9 HI HR8 HB8 HW8
        obtain ⟨q, hq⟩ : ∃ q, w9.heap.size = q := ⟨_, rfl⟩
        obtain ⟨w10, hw10⟩ : ∃ w10, w9.alloc (.cells #[.int .i64 c, .int .i64 a] 50) = w10 := ⟨_, rfl⟩
        have hal : Below w9.heap.size w9 w10 := by rw [← hw10]; exact (Below.refl _ _).alloc (Nat.le_refl _) _
        have FQ := Lib.hid (show FaultAt w10 q c a by rw [← hw10, ← hq]; exact FaultAt.new w9 c a)
        have hBq : Bk ≤ q := by rw [← hq]; exact hBk9
        have HN10 := Lib.hid (HN9.out.below hal)
        have HR10 := Lib.hid (HR9.out.below hal)
        have HH10 := Lib.hid (HH9.out.below hal)
        have HKK10 := Lib.hid (HKK9.out.below hal)
        have HI10 := Lib.hid (HI9.out.ext hal)
        have HF10 := Lib.hid (HF9.out.ext hal)
        have HF102 := Lib.hid (HF92.out.ext hal)
        have HL10 := Lib.hid (HL9.out.ext hal)
        have HL102 := Lib.hid (HL92.out.ext hal)
        have hBk10 : Bk ≤ w10.heap.size := Nat.le_trans hBk9 hal.size
        have hb10B : Below B w3 w10 := hb9B.trans (hal.mono (Nat.le_trans (Nat.le_trans hBBh hBhk) hBk9))
        have HW10 := Lib.hid hw10
        have HQ := Lib.hid hq
        clear hal hw10 hq HN9 HR9 HH9 HKK9 HI9 HF9 HF92 HL9 HL92 hb9B hBk9
        go_upto_region 17 with fail
        rw [HW10.out, HQ.out]
        obtain ⟨x0, x1, _, _⟩ := FQ.out.cells
        have C := faulted3_any (HEB.out w10 hb10B).env HI10.out c a
        rw [HFA.out] at C
        have HC := Lib.hid C
        clear C
        go_wp2_with fail
        refine HC.out.mono ?_
        clear HC x0 x1
        rintro e w11 ⟨rfl, hbt1⟩
        have C := sameTrees_any (HF10.out.row.ext hbt1) (HF102.out.row.ext hbt1) hlT
        rw [decide_eq_true rfl] at C
        have HC := Lib.hid C
        clear C
        go_wp2_with fail
        refine HC.out.mono ?_
        clear HC
        rintro e w12 ⟨rfl, hbt2⟩
        have hbt12 := hbt1.trans (hbt2.mono hbt1.size)
        have HC := Lib.hid (sameTexts_same (HL10.out.ext hbt12).row (HL102.out.ext hbt12).row (by rw [HZ.out.1, HZ2.out.1]) (by have := HZ.out.2; omega))
        go_wp2_with fail
        refine HC.out.mono ?_
        clear HC
        rintro e w13 ⟨rfl, hbt3⟩
        have hbT := Lib.hid (hbt12.trans (hbt3.mono hbt12.size))
        clear hbt1 hbt2 hbt12 hbt3
        have HN13 := Lib.hid (HN10.out.below hbT.out)
        have HR13 := Lib.hid (HR10.out.below hbT.out)
        have HH13 := Lib.hid (HH10.out.below hbT.out)
        have HKK13 := Lib.hid (HKK10.out.below hbT.out)
        have FQ13 := Lib.hid (FQ.out.ext hbT.out)
        have hBk13 : Bk ≤ w13.heap.size := Nat.le_trans hBk10 hbT.out.size
        have hb13B : Below B w3 w13 := hb10B.trans (hbT.out.mono (Nat.le_trans (Nat.le_trans hBBh hBhk) hBk10))
        clear HN10 HR10 HH10 HKK10 HI10 HF10 HF102 HL10 HL102 FQ hbT hb10B hBk10 HFA HW10
        go_wp2_with fail
        go_loopw [21] (fun i wr => ∃ (j : Nat) (hd : HeldB) (nk : NetB) (c a : Int), i = .int .i64 j ∧ j ≤ 2 ∧ nk.off.length ≤ 1000000 ∧ Hid (NetIs wr B b nk (l.length + 20 + 20 * j)) ∧ Hid (RNetIs wr B m nk) ∧ Hid (HeldIs wr Bh hb hd) ∧ Hid (RHeldIs w3 wr Bk kb hd) ∧ Hid (FaultAt wr q c a) ∧ Bk ≤ wr.heap.size ∧ Below B w3 wr) (fun i _ => 2 - (intOf i).toNat)
        case atStart => exact ⟨0, newH most, n1, c, a, rfl, by omega, by rw [hoffT]; omega, HN13, HR13, HH13, HKK13, FQ13, hBk13, hb13B⟩
        case round =>
          clear HN13 HR13 HH13 HKK13 FQ13 hBk13 hb13B
          obtain ⟨j, hd, nk, c, a, rfl, hj, hoffk, HN, HR, HH, HK, FQ, hBkz, hbz⟩ := hrel
          have hBz : B ≤ wr.heap.size := Nat.le_trans (Nat.le_trans hBBh hBhk) hBkz
          by_cases hj2 : j < 2
          · have hcl := HN.out.calls_le
            have HOKk := Lib.hid HN.out.1
            have HDK := Lib.hid HH.out.1
            obtain ⟨T, hT⟩ : ∃ T, fetchF hd nk (rs.map ruleOf) x = T := ⟨_, rfl⟩
            have hoffT := fetchF_off hd nk (rs.map ruleOf) x
            have hlT := fetchF_len (n := nk) (l := rs.map ruleOf) (x := x) HDK.out
            rw [hT] at hoffT hlT
            obtain ⟨er2, fs2, ls2, hd2, nk2⟩ := T
            dsimp only at hoffT hlT
            obtain ⟨tt, htt⟩ : ∃ tt, l.length + 20 + 20 * j = tt := ⟨_, rfl⟩
            have htl : tt ≤ 1000 := by omega
            rw [htt] at HN
            have HFET : Hid (∀ (W : World) (ov : Value), NetIs W B b nk tt → HeldIs W Bh hb hd → RulesRow W ov rs → Below B w3 W → Bh ≤ W.heap.size → Calls Tryz.prog 18 #[.pointer (some ⟨hb, 0, none⟩), .pointer (some ⟨b, 0, none⟩), ov, .agg #[.string x.name, .string x.url, .string x.kind, .int .i64 x.strip, .int .i64 x.sum]] W (FetchPost E B b Bh hb tt (er2, fs2, ls2, hd2, nk2) W)) := fun W ov h1 h2 h3 h4 h5 => by
              have := fetch_any B b Bh hb tt nk hd ov rs x W h1 h2 hap hBBh (by omega) (by omega) HSM.out HAS.out h3 h5 (fun W' hW' => HEB.out W' (h4.trans hW')) HG.out
              rw [hT] at this
              exact this
            have HRT2 := Lib.hid hT
            have HCL := Lib.hid hcl
            have HTT := Lib.hid htt
            obtain ⟨c0, c1, c2, c3, c4⟩ := KB.out wr hbz
            have hd1 : Below B wr (wr.drew) := below_drewN _ wr 1
            have hbzd : Below B w3 wr.drew := hbz.trans hd1
            have HND : Hid (NetIs wr.drew B b nk tt) := HN.out.below (below_drewN _ _ 1)
            have HHD : Hid (HeldIs wr.drew Bh hb hd) := HH.out.below (below_drewN _ _ 1)
            have hBzd : B ≤ wr.drew.heap.size := hBz
            have hBhzd : Bh ≤ wr.drew.heap.size := Nat.le_trans hBhk hBkz
            clear hT hcl htt HN HH
            go_wp2_with fail
            go_region_held3 (fun W : World => W.cell? ⟨px, 0, none⟩ = some (.string x.name) ∧ W.cell? ⟨px, 1, none⟩ = some (.string x.url) ∧ W.cell? ⟨px, 2, none⟩ = some (.string x.kind) ∧ W.cell? ⟨px, 3, none⟩ = some (.int .i64 x.strip) ∧ W.cell? ⟨px, 4, none⟩ = some (.int .i64 x.sum)) (first | go_keep | exact KB.out _ hb8B | exact KB.out _ hb7B)
              (first
                | (go_at_call 13; refine (HOR.out _ hbzd).mono ?_; rintro e w7 ⟨⟨ov, rfl, HOV⟩, hb7⟩; have HN7 := HND.out.below hb7; have HH7 := HHD.out.below hb7; have hb7B := hbzd.trans (hb7.mono hBzd); have hBh7 := Nat.le_trans hBhzd hb7.size)
                | (go_at_call 18; refine (HFET.out _ _ HN7 HH7 HOV.out hb7B hBh7).mono ?_; rintro e w8 ⟨fv, lv, ev, zs, rfl, HI, HF, HL8, HZ, HH8, HN8, HFR⟩; have hb8B := hb7B.trans (HFR.out.below hBBh))
                | fail)
            all_goals
              have hb78 : Below wr.heap.size wr w7 := (below_drewN _ wr 1).trans (hb7.mono (Nat.le_refl _))
              have HR8 := Lib.hid (HFR.out.rnet (HR.out.below hb78))
              have HKK8 := Lib.hid (HFR.out.rheld (HK.out.below hb78))
              have FQ8 := Lib.hid (HFR.out.fault (FQ.out.ext hb78))
              have hBk8 : Bk ≤ w8.heap.size := Nat.le_trans hBkz (Nat.le_trans hb78.size (HFR.out.below hBBh).size)
              have HB8 := Lib.hid hb8B
              have HW8 := Lib.hid (B3.out.trans (hb8B.mono hwB))
              have hW38 : Below w3.heap.size w3 w8 := by rw [HBE.out]; exact hb8B
              clear HR HK HND HHD HOV HN7 HH7 hb7 hb78 hb7B HFR c0 c1 c2 c3 c4 HFET hd1 hbzd hBzd FQ
              obtain ⟨c0, c1, c2, c3, c4⟩ := KB.out w8 HB8.out
              have hnc : nk.calls ≤ 100000000 := by have := HCL.out; omega
              have C := refFetch_any (W0 := w3) B m Bk kb nk hd vr rs x w8 hW38 (Nat.le_of_eq HBE.out) HR8.out HKK8.out HDK.out HOKk.out hoffk hnc (by omega) HSM.out HAS.out (HRv.out.ext HW8.out) (Nat.le_trans hBBh hBhk) hBk8
              rw [HRT2.out] at C
              unfold RFetchPost at C
              dsimp only at C
              obtain ⟨c, hc⟩ : ∃ c : Int, (er2.code : Int) = c := ⟨_, rfl⟩
              obtain ⟨a, ha⟩ : ∃ a : Int, er2.at?.getD (-1) = a := ⟨_, rfl⟩
              rw [show erA er2 = #[.int .i64 c, .int .i64 a] by unfold erA; rw [hc, ha]] at C
              have HC := Lib.hid C
              have HFA := Lib.hid (faulted_so er2 c a hc ha)
              clear C hc ha hW38
              go_wp2_with fail
              refine HC.out.mono ?_
              clear HC c0 c1 c2 c3 c4
              rintro e w9 ⟨fv2, lv2, zs2, rfl, HF2, HL2, HZ2, HKK9, HR9, HRF, HPL⟩
              have HN9 := Lib.hid (HRF.out.net HN8.out)
              have HH9 := Lib.hid (HRF.out.held HH8.out)
              have HF9 : Hid (FOwn w9 0 fv fs2) := FOwn.low (HRF.out.files HF.out) (Nat.zero_le _)
              have HL9 : Hid (TOwn w9 0 lv zs) := TOwn.low (HRF.out.lines HL8.out) (Nat.zero_le _)
              have HL92 : Hid (TOwn w9 0 lv2 zs2) := TOwn.low HL2.out (Nat.zero_le _)
              have FQ9 := Lib.hid (HRF.out.fault FQ8.out)
              have hb98 := HRF.out.below (B := B) (Nat.le_refl _) (Nat.le_trans hBBh hBhk)
              have hb9B : Below B w3 w9 := HB8.out.trans hb98
              have hBk9 : Bk ≤ w9.heap.size := Nat.le_trans hBk8 hb98.size
              have HI9 : Hid (IsErr E w9 ev er2) := by
                cases hat : er2.at? with
                | none => exact HI.out.plain hat w9
                | some a' => exact HI.out.ext (HPL.out a' hat)
              have HN10 := HN9.out.faulted FQ9.out (.int .i64 c) (.int .i64 a)
              have HR10 := HR9.out.faulted FQ9.out (.int .i64 c) (.int .i64 a)
              have HH10 := HH9.out.faulted FQ9.out (.int .i64 c) (.int .i64 a)
              have HKK10 := HKK9.out.faulted FQ9.out (.int .i64 c) (.int .i64 a)
              have HI10 := HI9.out.store FQ9.out (.int .i64 c) (.int .i64 a)
              have HF10 := HF9.out.faulted FQ9.out (.int .i64 c) (.int .i64 a)
              have HF102 := HF2.out.store FQ9.out (.int .i64 c) (.int .i64 a)
              have HL10 := HL9.out.faulted FQ9.out (.int .i64 c) (.int .i64 a)
              have HL102 := HL92.out.faulted FQ9.out (.int .i64 c) (.int .i64 a)
              have FQ10 := FQ9.out.store c a
              have hb10 := (fault_end FQ9.out c a B (Nat.le_trans (Nat.le_trans hBBh hBhk) hBq)).2.2
              have hb10B := hb9B.trans hb10
              have hBk10 := Nat.le_trans hBk9 hb10.size
              obtain ⟨y0, y1, y2, y3⟩ := FQ9.out.cells
              obtain ⟨w10, hw10⟩ : ∃ w10, (w9.setCell ⟨q, 0, none⟩ (.int .i64 c)).setCell ⟨q, 1, none⟩ (.int .i64 a) = w10 := ⟨_, rfl⟩
              rw [hw10] at HN10 HR10 HH10 HKK10 HI10 HF10 HF102 HL10 HL102 FQ10 hb10B hBk10
              have HW10 := Lib.hid hw10
              have HNx := Lib.hid HN10
              have HRx := Lib.hid HR10
              have HHx := Lib.hid HH10
              have HKx := Lib.hid HKK10
              have HIx := Lib.hid HI10
              have HFx := Lib.hid HF10
              have HFx2 := Lib.hid HF102
              have HLx := Lib.hid HL10
              have HLx2 := Lib.hid HL102
              have FQx := Lib.hid FQ10
              clear HPL HN8 HH8 HKK8 HF HL8 HF2 HL2 HI HR8 HB8 HW8 FQ8 HRF HN9 HH9 HF9 HL9 HL92 FQ9 HI9 HR9 HKK9 HN10 HR10 HH10 HKK10 HI10 HF10 HF102 HL10 HL102 FQ10 hb10 hw10 hb98 hb9B hBk9
              go_upto_region 24 with fail
              rw [HW10.out]
              clear y0 y1 y2 y3
              obtain ⟨x0, x1, _, _⟩ := FQx.out.cells
              have C := faulted3_any (HEB.out w10 hb10B).env HIx.out c a
              rw [HFA.out] at C
              have HC := Lib.hid C
              clear C
              go_wp2_with fail
              refine HC.out.mono ?_
              clear HC x0 x1
              rintro e w11 ⟨rfl, hbt1⟩
              have C := sameTrees_any (HFx.out.row.ext hbt1) (HFx2.out.1.ext hbt1) hlT
              rw [decide_eq_true rfl] at C
              have HC := Lib.hid C
              clear C
              go_wp2_with fail
              refine HC.out.mono ?_
              clear HC
              rintro e w12 ⟨rfl, hbt2⟩
              have hbt12 := hbt1.trans (hbt2.mono hbt1.size)
              have HC := Lib.hid (sameTexts_same (HLx.out.ext hbt12).row (HLx2.out.ext hbt12).row (by rw [HZ.out.1, HZ2.out.1]) (by have := HZ.out.2; omega))
              go_wp2_with fail
              refine HC.out.mono ?_
              clear HC
              rintro e w13 ⟨rfl, hbt3⟩
              have hbT := Lib.hid (hbt12.trans (hbt3.mono hbt12.size))
              clear hbt1 hbt2 hbt12 hbt3
              have HN13 := Lib.hid ((HNx.out.below hbT.out).later (show tt + 20 ≤ l.length + 20 + 20 * (j + 1) by have := HTT.out; omega))
              have HR13 := Lib.hid (HRx.out.below hbT.out)
              have HH13 := Lib.hid (HHx.out.below hbT.out)
              have HKK13 := Lib.hid (HKx.out.below hbT.out)
              have FQ13 := Lib.hid (FQx.out.ext hbT.out)
              have hBk13 : Bk ≤ w13.heap.size := Nat.le_trans hBk10 hbT.out.size
              have hb13B : Below B w3 w13 := hb10B.trans (hbT.out.mono (Nat.le_trans (Nat.le_trans hBBh hBhk) hBk10))
              clear HNx HRx HHx HKx HIx HFx HFx2 HLx HLx2 FQx hbT hb10B hBk10 HFA HW10
              go_wp2_with fail
              go_roundw
              case rel => exact ⟨j + 1, hd2, nk2, c, a, by go_num, by omega, by rw [hoffT]; exact hoffk, HN13, HR13, HH13, HKK13, FQ13, hBk13, hb13B⟩
              case measure => simp [intOf]; omega
          · obtain rfl : j = 2 := by omega
            obtain ⟨c0, c1, c2, c3, c4⟩ := KB.out wr hbz
            have hBz2 := hBz
            have C := Lib.hid (fetchTry_none vr x wr (HEB.out wr hbz).env)
            go_wp2_with fail
            refine C.out.mono ?_
            clear C c0 c1 c2 c3 c4
            rintro e w14 ⟨rfl, hb14⟩
            have hb14B := hbz.trans (hb14.mono hBz)
            obtain ⟨c0, c1, c2, c3, c4⟩ := KB.out w14 hb14B
            have C := Lib.hid (fetch_noHeld (.pointer (some ⟨b, 0, none⟩)) vr x w14 (HEB.out w14 hb14B).env)
            go_wp2_with fail
            refine C.out.mono ?_
            clear C c0 c1 c2 c3 c4
            rintro e w15 ⟨rfl, hb15⟩
            have hb145 := hb14.trans (hb15.mono hb14.size)
            have hb15B := hbz.trans (hb145.mono hBz)
            obtain ⟨c0, c1, c2, c3, c4⟩ := KB.out w15 hb15B
            have C := Lib.hid (fetch_noNet ⟨hb, 0, none⟩ vr x w15 (HEB.out w15 hb15B).env)
            go_wp2_with fail
            refine C.out.mono ?_
            clear C c0 c1 c2 c3 c4
            rintro e w16 ⟨rfl, hb16⟩
            have hbA := hb145.trans (hb16.mono hb145.size)
            have hb16B := hbz.trans (hbA.mono hBz)
            have HN16 := Lib.hid (HN.out.below hbA)
            have HH16 := Lib.hid (HH.out.below hbA)
            have HK16 := Lib.hid (HK.out.below hbA)
            obtain ⟨vL, vO, hR16⟩ := HR.out.below hbA
            have hd40 : hd.trees.length ≤ 1000 := by have h1 := HH.out.1.few; have h2 := HH.out.1.len; omega
            have KM : Hid (∀ W, Below w16.heap.size w16 W → W.cell? ⟨m, 2, none⟩ = some (.int .i64 nk.calls)) := fun W hW => by rw [Lib.cell_of_heap (hR16.below hW).blk]; rfl
            have CS1 : Hid (∀ W, Below w16.heap.size w16 W → Calls Tryz.prog 21 #[.pointer (some ⟨hb, 0, none⟩)] W fun e w' => (∃ ov, e = .returned ov ∧ Hid (Row encInt 1 w' ov hd.sums)) ∧ Below W.heap.size W w') := fun W hW => by
              refine (heldSums_any Bh hb hd W (HH16.out.below hW)).mono ?_
              rintro e w' ⟨⟨ov, rfl, hO⟩, hb⟩
              exact ⟨⟨ov, rfl, hO.out.row⟩, hb⟩
            have CS2 : Hid (∀ W, Below w16.heap.size w16 W → Calls Tryz.prog 22 #[.pointer (some ⟨kb, 0, none⟩)] W fun e w' => (∃ ov, e = .returned ov ∧ Hid (Row encInt 1 w' ov hd.sums)) ∧ Below W.heap.size W w') := fun W hW => by
              refine (refHSums_any w3 Bk kb hd W (HK16.out.below hW) hd40).mono ?_
              rintro e w' ⟨⟨ov, rfl, hO⟩, hb⟩
              exact ⟨⟨ov, rfl, hO.out.row⟩, hb⟩
            have CSI : Hid (∀ (W : World) (v u : Value), Row encInt 1 W v hd.sums → Row encInt 1 W u hd.sums → Calls Tryz.prog 20 #[v, u] W fun e w' => e = .returned (.bool true) ∧ Below W.heap.size W w') := fun W v u h1 h2 => by
              have := sameInts_any h1 h2
              rw [decide_eq_true rfl] at this
              exact this
            have CNC : Hid (∀ W, Below w16.heap.size w16 W → Calls Tryz.prog 23 #[.pointer (some ⟨b, 0, none⟩)] W fun e w' => e = .returned (.int .i64 nk.calls) ∧ w' = W) := fun W hW => netCalls_any B b _ nk W (HN16.out.below hW)
            have CCD : Hid (∀ W, Below w16.heap.size w16 W → Calls Tryz.prog 24 #[sentV E 2, .int .i64 3] W fun e w' => e = .returned (.bool true) ∧ Below W.heap.size W w') := fun W hW => errCoded3 (c := 3) ((HEB.out w16 hb16B).env.ext hW) (by decide)
            have hqc : ((nk.calls : Int) == (nk.calls : Int)) = true := beq_self_eq_true _
            have hdr : Below w16.heap.size w16 w16.drew := below_drewN _ w16 1
            have r0 := KM.out w16 (Below.refl _ _)
            have HW16 := Lib.hid (B3.out.trans (hb16B.mono hwB))
            clear HN HH HK HR hR16 HN16 HH16 HK16 hbA hb14 hb15 hb16 hb145
            go_wp2_with fail
            go_region_held3 (fun W : World => W.cell? ⟨m, 2, none⟩ = some (.int .i64 nk.calls)) (first | exact KM.out _ b22 | exact KM.out _ b21 | exact KM.out _ b20 | exact KM.out _ b19 | exact KM.out _ b18 | exact KM.out _ b17 | exact KM.out _ hdr | go_keep)
              (first
                | (go_at_call 24; refine (CCD.out _ b21).mono ?_; rintro e w22 ⟨rfl, h22⟩; have b22 := b21.trans (h22.mono b21.size))
                | (go_at_call 24; refine (CCD.out _ b20).mono ?_; rintro e w21 ⟨rfl, h21⟩; have b21 := b20.trans (h21.mono b20.size))
                | (go_at_call 24; refine (CCD.out _ b19).mono ?_; rintro e w20 ⟨rfl, h20⟩; have b20 := b19.trans (h20.mono b19.size))
                | (go_at_call 23; refine (CNC.out _ b19).mono ?_; rintro e w23 ⟨rfl, rfl⟩)
                | (go_at_call 20; refine (CSI.out _ _ _ (R1.out.ext h18) R2.out).mono ?_; rintro e w19 ⟨rfl, h19⟩; have b19 := b18.trans (h19.mono b18.size))
                | (go_at_call 22; refine (CS2.out _ b17).mono ?_; rintro e w18 ⟨⟨ov2, rfl, R2⟩, h18⟩; have b18 := b17.trans (h18.mono b17.size))
                | (go_at_call 21; refine (CS1.out _ hdr).mono ?_; rintro e w17 ⟨⟨ov1, rfl, R1⟩, h17⟩; have b17 := hdr.trans (h17.mono hdr.size))
                | fail)
            all_goals
              go_wp2_with fail
              go_ret
              exact ⟨rfl, HW16.out.trans (b22.mono HW16.out.size)⟩
end Go.Proofs.YtomceddfbfpjjaaGreatDoor
