/- chandlerylaw2.Do: an act on both nets: the contract. Nets and helds, and the reference's, beside one another: frames. chandlerylaw2.netted, LongActs: contracts. -/
import Derived.Test.YtomceddfbfpjjaaGreatDoorKNetUp
import Derived.Test.YtomceddfbfpjjaaGreatDoorKRefNetUp
import Derived.Test.YtomceddfbfpjjaaGreatDoorKTold
import Derived.Deep.RegionHeld3
import Derived.Deep.QuietTactic
import Derived.BigQuiet
import Derived.Test.YtomceddfbfpjjaaGreatDoorKHeldEnds
import Derived.Test.YtomceddfbfpjjaaGreatDoorKRefHeldUp
import Derived.IntWalk
namespace Go.Proofs.YtomceddfbfpjjaaGreatDoor
open Go Go.RowKit

/-- What a statement's input names: kind, URL, S, N, On. -/
structure ActB where
  kind : ByteArray
  url : ByteArray
  s : ByteArray
  n : Int
  on : Bool
abbrev actV (a : ActB) : Array Value := #[.string a.kind, .string a.url, .string a.s, .int .i64 a.n, .bool a.on]
def kPut : List UInt8 := [112, 117, 116]
def kHost : List UInt8 := [104, 111, 115, 116]
def kCut : List UInt8 := [99, 117, 116]
def stepN (n : NetB) (a : ActB) : NetB :=
  if (a.kind.toList == kPut) = true then (putN n a.url a.s).2 else if (a.kind.toList == kHost) = true then (hostN n a.url a.on).2 else if (a.kind.toList == kCut) = true then (cutN n a.url a.n).2 else (getN n a.url).2.2
theorem putN_le (n : NetB) (u s : ByteArray) : (putN n u s).1 ≤ 13 := by
  unfold putN
  split
  · exact linkE_le _
  · split
    · exact Nat.le_of_ble_eq_true rfl
    · split
      · exact Nat.le_of_ble_eq_true rfl
      · split <;> exact Nat.le_of_ble_eq_true rfl
theorem hostN_le (n : NetB) (u : ByteArray) (on : Bool) : (hostN n u on).1 ≤ 13 := by unfold hostN; split <;> exact Nat.le_of_ble_eq_true rfl
theorem cutN_le (n : NetB) (u : ByteArray) (k : Int) : (cutN n u k).1 ≤ 13 := by
  unfold cutN
  split
  · exact Nat.le_of_ble_eq_true rfl
  · split <;> exact Nat.le_of_ble_eq_true rfl
theorem getN_le (n : NetB) (u : ByteArray) : (getN n u).2.1 ≤ 13 := by
  unfold getN
  split
  · exact linkE_le _
  · split
    · exact Nat.le_of_ble_eq_true rfl
    · split <;> exact Nat.le_of_ble_eq_true rfl

def NRRow (o : Obj) : Prop := NetRow o ∨ RNetRow o
theorem Keeps.wide {K L : Obj → Prop} {B : Nat} {w w' : World} (h : Keeps K B w w') (hk : ∀ o, K o → L o) : Keeps L B w w' := ⟨h.below, fun k o ho hn => h.keep k o ho (fun hK => hn (hk o hK))⟩
theorem notN_r (cs : Array Value) : ¬ NetRow (.cells cs 37 (0, 0)) := by
  rintro (⟨es, c, h⟩ | ⟨c, fz, h⟩)
  · cases h
  · injection h with _ h3 _; exact absurd h3 (by decide)
theorem notN_s (cs : Array Value) : ¬ NetRow (.cells cs 122 (0, 0)) := by
  rintro (⟨es, c, h⟩ | ⟨c, fz, h⟩)
  · cases h
  · injection h with _ h3 _; exact absurd h3 (by decide)
theorem notN_str (cs : Array Value) : ¬ NetRow (.cells cs 9 (0, 0)) := by
  rintro (⟨es, c, h⟩ | ⟨c, fz, h⟩)
  · cases h
  · injection h with _ h3 _; exact absurd h3 (by decide)
theorem notN_act (cs : Array Value) : ¬ NetRow (.cells cs 42 (0, 0)) := by
  rintro (⟨es, c, h⟩ | ⟨c, fz, h⟩)
  · cases h
  · injection h with _ h3 _; exact absurd h3 (by decide)
theorem notR_act (cs : Array Value) : ¬ RNetRow (.cells cs 42 (0, 0)) := by
  rintro (⟨c, fz, h⟩ | ⟨c, fz, h⟩) <;> (injection h with _ h3 _; exact absurd h3 (by decide))
theorem notR_map (es : Array MapEntry) (c : Nat) : ¬ RNetRow (.map es c) := by
  rintro (⟨c, fz, h⟩ | ⟨c, fz, h⟩) <;> cases h
theorem notR_net (cs : Array Value) (fz : Nat × Nat) : ¬ RNetRow (.cells cs 76 fz) := by
  rintro (⟨c, fz, h⟩ | ⟨c, fz, h⟩) <;> (injection h with _ h3 _; exact absurd h3 (by decide))

/-- First the net's blocks are turned, then the reference's. -/
def Betw (b B : Nat) (w w' : World) : Prop := ∃ w5, KeepsU 4 b NetRow B w w5 ∧ Keeps RNetRow B w5 w'
theorem Betw.keeps {b B : Nat} {w w' : World} (h : Betw b B w w') : Keeps NRRow B w w' := by
  obtain ⟨w5, h1, h2⟩ := h
  exact (h1.toKeeps.wide fun o h => .inl h).trans (h2.wide fun o h => .inr h)
theorem Betw.below {b B : Nat} {w w' : World} (h : Betw b B w w') : Below B w w' := h.keeps.below
theorem Betw.trans {b B : Nat} {w w' w2 : World} (h : Betw b B w w') (k : Keeps RNetRow B w' w2) : Betw b B w w2 := by
  obtain ⟨w5, h1, h2⟩ := h
  exact ⟨w5, h1, h2.trans k⟩
/-- What Do leaves: both are the net behind the act. -/
def DoPost (B b m t : Nat) (n' : NetB) (w : World) (e : Ending) (w' : World) : Prop :=
  e = .returned (.int .i64 1) ∧ NetIs w' B b n' (t + 1) ∧ RNetIs w' B m n' ∧ Betw b B w w'
theorem codedC {E : Nat → Addr} {w : World} {c : Nat} {cv : Value} {co : Int} (hE : Env E w) (h : c ≤ 13) (h1 : cv = errV E c) (h2 : co = (c : Int)) : Calls Tryz.prog 30 #[cv, .int .i64 co] w fun e w' => e = .returned (.bool true) ∧ Below w.heap.size w w' := by
  subst h1; subst h2; exact errCoded2 hE h

set_option maxHeartbeats 4000000 in
set_option maxRecDepth 100000 in
theorem do_any {E : Nat → Addr} (B b m t : Nat) (n : NetB) (a : ActB) (w : World) (h : NetIs w B b n t) (hr : RNetIs w B m n) (ht : t < 100000000) (ho : n.off.length ≤ 1000000) (hu : a.url.size ≤ 100000) (hs : a.s.size ≤ 1000000) (hn : -9223372036854775808 ≤ a.n ∧ a.n ≤ 9223372036854775807)
    (hBw : B ≤ w.heap.size) (hEB : ∀ W, Below B w W → NEnv E W) (hG : ∀ k, k < 13 → gE k < B) :
    Calls Tryz.prog 11 #[.pointer (some ⟨b, 0, none⟩), .pointer (some ⟨m, 0, none⟩), .agg (actV a)] w (DoPost B b m t (stepN n a) w) := by
  obtain ⟨kd, u, s, k, on⟩ := a
  dsimp only at hu hs hn
  obtain ⟨pa, hpa⟩ : ∃ pa, w.heap.size = pa := ⟨_, rfl⟩
  obtain ⟨wa, hwa⟩ : ∃ wa, w.alloc (.cells #[.string kd, .string u, .string s, .int .i64 k, .bool on] 42) = wa := ⟨_, rfl⟩
  have hal : Below w.heap.size w wa := by rw [← hwa]; exact (Below.refl _ _).alloc (Nat.le_refl _) _
  have hA : wa.heap[pa]? = some (.cells #[.string kd, .string u, .string s, .int .i64 k, .bool on] 42 (0, 0)) := by rw [← hwa, ← hpa]; exact heap_alloc_new _ _
  have hKa : KeepsU 4 b NetRow B w wa := KeepsU.of hal hBw
  have HNa := Lib.hid (h.below hal)
  have HRa := Lib.hid (hr.below hal)
  have hBa : B ≤ wa.heap.size := Nat.le_trans hBw hal.size
  have HRd : Hid (RNetIs wa.drew B m n) := HRa.out.below (below_drewN _ _ 1)
  have hKd : KeepsU 4 b NetRow B w wa.drew := hKa.trans (KeepsU.of (below_drewN _ _ 1) hBa)
  have HF := Lib.hid hEB
  have hok := h.1
  have Hok := Lib.hid hok
  have hcl : n.calls ≤ t := by
    obtain ⟨_, _, _, _, _, _, _, h1⟩ := h
    exact h1.hcl
  have HPA := Lib.hid hpa
  have HWA := Lib.hid hwa
  have HG := Lib.hid hG
  have HA := Lib.hid hA
  have hcells : ∀ W : World, W.heap[pa]? = some (.cells #[.string kd, .string u, .string s, .int .i64 k, .bool on] 42 (0, 0)) → W.cell? ⟨pa, 1, none⟩ = some (.string u) ∧ W.cell? ⟨pa, 2, none⟩ = some (.string s) ∧ W.cell? ⟨pa, 3, none⟩ = some (.int .i64 k) ∧ W.cell? ⟨pa, 4, none⟩ = some (.bool on) := by
    intro W hW
    exact ⟨by rw [Lib.cell_of_heap hW]; rfl, by rw [Lib.cell_of_heap hW]; rfl, by rw [Lib.cell_of_heap hW]; rfl, by rw [Lib.cell_of_heap hW]; rfl⟩
  have HCE := Lib.hid hcells
  obtain ⟨a1, a2, a3, a4⟩ := hcells wa hA
  have hEw := Lib.hid (hEB wa hKa.below)
  clear h hr hpa hwa hal hA hEB hG hok hcells
  obtain ⟨KP, hKP⟩ : ∃ KP : Bool, (kd.toList == [112, 117, 116]) = KP := ⟨_, rfl⟩
  cases KP with
  | true =>
    obtain ⟨c, n', hr⟩ : ∃ c n', putN n u s = (c, n') := ⟨_, _, rfl⟩
    have hst : stepN n ⟨kd, u, s, k, on⟩ = n' := by unfold stepN; dsimp only; rw [if_pos (show (kd.toList == kPut) = true from hKP)]; rw [hr]
    have hc13 : c ≤ 13 := by have := putN_le n u s; rw [hr] at this; exact this
    have C1 := netPut_any B b t n u s wa.drew (HNa.out.below (below_drewN _ _ 1)) hu (by omega) hBa (hEw.out.ext (below_drewN _ _ 1))
    rw [hr] at C1
    have C2 : ∀ W, RNetIs W B m n → B ≤ W.heap.size → Calls Tryz.prog 31 #[.pointer (some ⟨m, 0, none⟩), .string u, .string s] W (RNetPost B m (c, n') W) := by
      intro W hW hB
      have := refPut_net B m n u s W hW Hok.out hu (by omega) hB
      rw [hr] at this
      exact this
    unfold NetPost at C1
    unfold RNetPost at C2
    dsimp only at C1 C2
    have C3 : ∀ W, Below B w W → Calls Tryz.prog 30 #[errV E c, .int .i64 c] W fun e w' => e = .returned (.bool true) ∧ Below W.heap.size W w' := fun W hW => codedC (HF.out W hW).1 hc13 rfl rfl
    generalize errV E c = cv at C1 C3
    generalize (c : Int) = co at C2 C3
    have HC1 := Lib.hid C1
    have HC2 := Lib.hid C2
    have HC3 := Lib.hid C3
    have HST := Lib.hid hst
    clear C1 C2 C3 hr hst hc13
    go_enter Tryz.func11, Tryz.ntmps11
    go_wp2_with fail
    rw [HWA.out, HPA.out]
    go_region_held3 (fun W : World => W.cell? ⟨pa, 1, none⟩ = some (.string u) ∧ W.cell? ⟨pa, 2, none⟩ = some (.string s)) (first | exact ⟨d1, d2⟩ | exact ⟨c1, c2⟩ | exact ⟨b1, b2⟩ | exact ⟨a1, a2⟩)
      (first
        | (go_at_call 27; refine HC1.out.mono ?_; rintro e w5 ⟨rfl, HN5, HK5⟩; have hA5 := HK5.keep pa _ HA.out (notN_act _); obtain ⟨b1, b2, b3, b4⟩ := HCE.out w5 hA5; have hR5 := Lib.hid (HRd.out.keeps HK5.toKeeps notN_r notN_s notN_str))
        | (go_at_call 31; refine (HC2.out w5 hR5.out (Nat.le_trans hBa HK5.below.size)).mono ?_; rintro e w6 ⟨rfl, HR6, HK6⟩; have hA6 := HK6.keep pa _ hA5 (notR_act _); obtain ⟨c1, c2, c3, c4⟩ := HCE.out w6 hA6; have hK6 : Betw b B w w6 := ⟨w5, hKd.trans HK5, HK6⟩)
        | (go_at_call 30; refine (HC3.out w6 hK6.below).mono ?_; rintro e w7 ⟨rfl, hb7⟩; have hA7 : w7.heap[pa]? = _ := (hb7.block pa (Array.getElem?_eq_some_iff.1 hA6).1).trans hA6; obtain ⟨d1, d2, d3, d4⟩ := HCE.out w7 hA7))
    have hN7 := (HN5.keeps HK6 notR_map notR_net).below hb7
    have hR7 := HR6.below hb7
    have hK7 := hK6.trans (Keeps.of hb7 (Nat.le_trans hBw hK6.below.size))
    obtain ⟨vL, vO, hR8⟩ := hR7
    have r2 : w7.cell? ⟨m, 2, none⟩ = some (.int .i64 n'.calls) := by rw [Lib.cell_of_heap hR8.blk]; rfl
    have HQ1 : Hid (∀ q, Calls Tryz.prog 23 #[.pointer (some ⟨b, 0, none⟩)] (w7.drewN q) fun e w' => e = .returned (.int .i64 n'.calls) ∧ w' = w7.drewN q) := fun q => netCalls_any B b (t + 1) n' (w7.drewN q) (hN7.below (below_drewN _ _ _))
    have hqq : ((n'.calls : Int) == (n'.calls : Int)) = true := beq_self_eq_true _
    have HN7 := Lib.hid hN7
    have HR8 := Lib.hid hR8
    clear hN7 hR8 hK6 HK5 HK6 HN5 HR6 hb7 hR5 hA5 hA6 hA7 b1 b2 b3 b4 c1 c2 c3 c4 d1 d2 d3 d4 HC1 HC2 HC3 a1 a2 a3 a4
    go_wp2_with fail
    go_quiet (first | exact Calls.quiet_of_same (HQ1.out _))
    go_wp2_with fail
    go_ret
    refine ⟨rfl, ?_, ?_, hK7.trans (Keeps.of (below_drewN _ _ _) (Nat.le_trans hBw hK7.below.size))⟩
    · rw [HST.out]; exact HN7.out.below (below_drewN _ _ _)
    · rw [HST.out]; exact ⟨vL, vO, HR8.out.below (below_drewN _ _ _)⟩
  | false =>
    obtain ⟨KH, hKH⟩ : ∃ KH : Bool, (kd.toList == [104, 111, 115, 116]) = KH := ⟨_, rfl⟩
    cases KH with
    | true =>
      obtain ⟨c, n', hr⟩ : ∃ c n', hostN n u on = (c, n') := ⟨_, _, rfl⟩
      have hst : stepN n ⟨kd, u, s, k, on⟩ = n' := by unfold stepN; dsimp only; rw [if_neg (by rw [show (kd.toList == kPut) = false from hKP]; simp), if_pos (show (kd.toList == kHost) = true from hKH)]; rw [hr]
      have hc13 : c ≤ 13 := by have := hostN_le n u on; rw [hr] at this; exact this
      have C1 := netHost_any B b t n u on wa.drew (HNa.out.below (below_drewN _ _ 1)) (by omega) hu hBa (hEw.out.ext (below_drewN _ _ 1))
      rw [hr] at C1
      have C2 : ∀ W, RNetIs W B m n → B ≤ W.heap.size → Calls Tryz.prog 33 #[.pointer (some ⟨m, 0, none⟩), .string u, .bool on] W (RNetPost B m (c, n') W) := by
        intro W hW hB
        have := refHost_net B m n u on W hW ho hu hB
        rw [hr] at this
        exact this
      unfold NetPost at C1
      unfold RNetPost at C2
      dsimp only at C1 C2
      have C3 : ∀ W, Below B w W → Calls Tryz.prog 30 #[errV E c, .int .i64 c] W fun e w' => e = .returned (.bool true) ∧ Below W.heap.size W w' := fun W hW => codedC (HF.out W hW).1 hc13 rfl rfl
      generalize errV E c = cv at C1 C3
      generalize (c : Int) = co at C2 C3
      have HC1 := Lib.hid C1
      have HC2 := Lib.hid C2
      have HC3 := Lib.hid C3
      have HST := Lib.hid hst
      clear C1 C2 C3 hr hst hc13
      go_enter Tryz.func11, Tryz.ntmps11
      go_wp2_with fail
      rw [HWA.out, HPA.out]
      go_region_held3 (fun W : World => W.cell? ⟨pa, 1, none⟩ = some (.string u) ∧ W.cell? ⟨pa, 4, none⟩ = some (.bool on)) (first | exact ⟨d1, d4⟩ | exact ⟨c1, c4⟩ | exact ⟨b1, b4⟩ | exact ⟨a1, a4⟩)
        (first
          | (go_at_call 32; refine HC1.out.mono ?_; rintro e w5 ⟨rfl, HN5, HK5⟩; have hA5 := HK5.keep pa _ HA.out (notN_act _); obtain ⟨b1, b2, b3, b4⟩ := HCE.out w5 hA5; have hR5 := Lib.hid (HRd.out.keeps HK5.toKeeps notN_r notN_s notN_str))
          | (go_at_call 33; refine (HC2.out w5 hR5.out (Nat.le_trans hBa HK5.below.size)).mono ?_; rintro e w6 ⟨rfl, HR6, HK6⟩; have hA6 := HK6.keep pa _ hA5 (notR_act _); obtain ⟨c1, c2, c3, c4⟩ := HCE.out w6 hA6; have hK6 : Betw b B w w6 := ⟨w5, hKd.trans HK5, HK6⟩)
          | (go_at_call 30; refine (HC3.out w6 hK6.below).mono ?_; rintro e w7 ⟨rfl, hb7⟩; have hA7 : w7.heap[pa]? = _ := (hb7.block pa (Array.getElem?_eq_some_iff.1 hA6).1).trans hA6; obtain ⟨d1, d2, d3, d4⟩ := HCE.out w7 hA7))
      have hN7 := (HN5.keeps HK6 notR_map notR_net).below hb7
      have hR7 := HR6.below hb7
      have hK7 := hK6.trans (Keeps.of hb7 (Nat.le_trans hBw hK6.below.size))
      obtain ⟨vL, vO, hR8⟩ := hR7
      have r2 : w7.cell? ⟨m, 2, none⟩ = some (.int .i64 n'.calls) := by rw [Lib.cell_of_heap hR8.blk]; rfl
      have HQ1 : Hid (∀ q, Calls Tryz.prog 23 #[.pointer (some ⟨b, 0, none⟩)] (w7.drewN q) fun e w' => e = .returned (.int .i64 n'.calls) ∧ w' = w7.drewN q) := fun q => netCalls_any B b (t + 1) n' (w7.drewN q) (hN7.below (below_drewN _ _ _))
      have hqq : ((n'.calls : Int) == (n'.calls : Int)) = true := beq_self_eq_true _
      have HN7 := Lib.hid hN7
      have HR8 := Lib.hid hR8
      clear hN7 hR8 hK6 HK5 HK6 HN5 HR6 hb7 hR5 hA5 hA6 hA7 b1 b2 b3 b4 c1 c2 c3 c4 d1 d2 d3 d4 HC1 HC2 HC3 a1 a2 a3 a4
      go_wp2_with fail
      go_quiet (first | exact Calls.quiet_of_same (HQ1.out _))
      go_wp2_with fail
      go_ret
      refine ⟨rfl, ?_, ?_, hK7.trans (Keeps.of (below_drewN _ _ _) (Nat.le_trans hBw hK7.below.size))⟩
      · rw [HST.out]; exact HN7.out.below (below_drewN _ _ _)
      · rw [HST.out]; exact ⟨vL, vO, HR8.out.below (below_drewN _ _ _)⟩
    | false =>
      obtain ⟨KC, hKC⟩ : ∃ KC : Bool, (kd.toList == [99, 117, 116]) = KC := ⟨_, rfl⟩
      cases KC with
      | true =>
        obtain ⟨c, n', hr⟩ : ∃ c n', cutN n u k = (c, n') := ⟨_, _, rfl⟩
        have hst : stepN n ⟨kd, u, s, k, on⟩ = n' := by unfold stepN; dsimp only; rw [if_neg (by rw [show (kd.toList == kPut) = false from hKP]; simp), if_neg (by rw [show (kd.toList == kHost) = false from hKH]; simp), if_pos (show (kd.toList == kCut) = true from hKC)]; rw [hr]
        have hc13 : c ≤ 13 := by have := cutN_le n u k; rw [hr] at this; exact this
        have C1 := netCut_any B b t n u k wa.drew (HNa.out.below (below_drewN _ _ 1)) (by omega) hu hn hBa (hEw.out.ext (below_drewN _ _ 1))
        rw [hr] at C1
        have C2 : ∀ W, RNetIs W B m n → B ≤ W.heap.size → Calls Tryz.prog 35 #[.pointer (some ⟨m, 0, none⟩), .string u, .int .i64 k] W (RNetPost B m (c, n') W) := by
          intro W hW hB
          have := refSetCut_net B m n u k W hW Hok.out ⟨hn.2, hn.1⟩ hB
          rw [hr] at this
          exact this
        unfold NetPost at C1
        unfold RNetPost at C2
        dsimp only at C1 C2
        have C3 : ∀ W, Below B w W → Calls Tryz.prog 30 #[errV E c, .int .i64 c] W fun e w' => e = .returned (.bool true) ∧ Below W.heap.size W w' := fun W hW => codedC (HF.out W hW).1 hc13 rfl rfl
        generalize errV E c = cv at C1 C3
        generalize (c : Int) = co at C2 C3
        have HC1 := Lib.hid C1
        have HC2 := Lib.hid C2
        have HC3 := Lib.hid C3
        have HST := Lib.hid hst
        clear C1 C2 C3 hr hst hc13
        go_enter Tryz.func11, Tryz.ntmps11
        go_wp2_with fail
        rw [HWA.out, HPA.out]
        go_region_held3 (fun W : World => W.cell? ⟨pa, 1, none⟩ = some (.string u) ∧ W.cell? ⟨pa, 3, none⟩ = some (.int .i64 k)) (first | exact ⟨d1, d3⟩ | exact ⟨c1, c3⟩ | exact ⟨b1, b3⟩ | exact ⟨a1, a3⟩)
          (first
            | (go_at_call 34; refine HC1.out.mono ?_; rintro e w5 ⟨rfl, HN5, HK5⟩; have hA5 := HK5.keep pa _ HA.out (notN_act _); obtain ⟨b1, b2, b3, b4⟩ := HCE.out w5 hA5; have hR5 := Lib.hid (HRd.out.keeps HK5.toKeeps notN_r notN_s notN_str))
            | (go_at_call 35; refine (HC2.out w5 hR5.out (Nat.le_trans hBa HK5.below.size)).mono ?_; rintro e w6 ⟨rfl, HR6, HK6⟩; have hA6 := HK6.keep pa _ hA5 (notR_act _); obtain ⟨c1, c2, c3, c4⟩ := HCE.out w6 hA6; have hK6 : Betw b B w w6 := ⟨w5, hKd.trans HK5, HK6⟩)
            | (go_at_call 30; refine (HC3.out w6 hK6.below).mono ?_; rintro e w7 ⟨rfl, hb7⟩; have hA7 : w7.heap[pa]? = _ := (hb7.block pa (Array.getElem?_eq_some_iff.1 hA6).1).trans hA6; obtain ⟨d1, d2, d3, d4⟩ := HCE.out w7 hA7))
        have hN7 := (HN5.keeps HK6 notR_map notR_net).below hb7
        have hR7 := HR6.below hb7
        have hK7 := hK6.trans (Keeps.of hb7 (Nat.le_trans hBw hK6.below.size))
        obtain ⟨vL, vO, hR8⟩ := hR7
        have r2 : w7.cell? ⟨m, 2, none⟩ = some (.int .i64 n'.calls) := by rw [Lib.cell_of_heap hR8.blk]; rfl
        have HQ1 : Hid (∀ q, Calls Tryz.prog 23 #[.pointer (some ⟨b, 0, none⟩)] (w7.drewN q) fun e w' => e = .returned (.int .i64 n'.calls) ∧ w' = w7.drewN q) := fun q => netCalls_any B b (t + 1) n' (w7.drewN q) (hN7.below (below_drewN _ _ _))
        have hqq : ((n'.calls : Int) == (n'.calls : Int)) = true := beq_self_eq_true _
        have HN7 := Lib.hid hN7
        have HR8 := Lib.hid hR8
        clear hN7 hR8 hK6 HK5 HK6 HN5 HR6 hb7 hR5 hA5 hA6 hA7 b1 b2 b3 b4 c1 c2 c3 c4 d1 d2 d3 d4 HC1 HC2 HC3 a1 a2 a3 a4
        go_wp2_with fail
        go_quiet (first | exact Calls.quiet_of_same (HQ1.out _))
        go_wp2_with fail
        go_ret
        refine ⟨rfl, ?_, ?_, hK7.trans (Keeps.of (below_drewN _ _ _) (Nat.le_trans hBw hK7.below.size))⟩
        · rw [HST.out]; exact HN7.out.below (below_drewN _ _ _)
        · rw [HST.out]; exact ⟨vL, vO, HR8.out.below (below_drewN _ _ _)⟩
      | false =>
        obtain ⟨l, c, n', hr⟩ : ∃ l c n', getN n u = (l, c, n') := ⟨_, _, _, rfl⟩
        have hst : stepN n ⟨kd, u, s, k, on⟩ = n' := by unfold stepN; dsimp only; rw [if_neg (by rw [show (kd.toList == kPut) = false from hKP]; simp), if_neg (by rw [show (kd.toList == kHost) = false from hKH]; simp), if_neg (by rw [show (kd.toList == kCut) = false from hKC]; simp), hr]
        have hc13 : c ≤ 13 := by have := getN_le n u; rw [hr] at this; exact this
        have C1 := netGet_any B b t n u wa HNa.out (by omega) hu hBa hEw.out HG.out
        rw [hr] at C1
        have C2 : ∀ W, RNetIs W B m n → B ≤ W.heap.size → Calls Tryz.prog 37 #[.pointer (some ⟨m, 0, none⟩), .string u] W (RGetPost B m (l, c, n') W) := by
          intro W hW hB
          have := refGet_net B m n u W hW Hok.out ho (by omega) hu hB
          rw [hr] at this
          exact this
        unfold GetPost at C1
        unfold RGetPost at C2
        dsimp only at C1 C2
        have C3 : ∀ W, Below B w W → Calls Tryz.prog 30 #[errV E c, .int .i64 c] W fun e w' => e = .returned (.bool true) ∧ Below W.heap.size W w' := fun W hW => codedC (HF.out W hW).1 hc13 rfl rfl
        generalize errV E c = cv at C1 C3
        generalize (c : Int) = co at C2 C3
        have HC1 := Lib.hid C1
        have HC2 := Lib.hid C2
        have HC3 := Lib.hid C3
        have HST := Lib.hid hst
        clear C1 C2 C3 hr hst hc13
        go_enter Tryz.func11, Tryz.ntmps11
        go_wp2_with fail
        rw [HWA.out, HPA.out]
        refine HC1.out.mono ?_
        rintro e w5 ⟨x, rfl, HX, HN5, HK5⟩
        have hA5 := HK5.keep pa _ HA.out (notN_act _)
        obtain ⟨b1, _, _, _⟩ := HCE.out w5 hA5
        have hR5 := Lib.hid (HRa.out.keeps HK5.toKeeps notN_r notN_s notN_str)
        clear a1 a2 a3 a4 HC1
        go_wp2_with fail
        refine (HC2.out w5 hR5.out (Nat.le_trans hBa HK5.below.size)).mono ?_
        rintro e w6 ⟨y, rfl, HY, HR6, HK6⟩
        have hK6 : Betw b B w w6 := ⟨w5, hKa.trans HK5, HK6⟩
        obtain rfl : x = y := bl_eq (by rw [HX.out, HY.out])
        have hxx : (x.toList == x.toList) = true := beq_self_eq_true _
        clear b1 HC2 hA5
        go_wp2_with fail
        refine (HC3.out w6 hK6.below).mono ?_
        rintro e w7 ⟨rfl, hb7⟩
        have hN7 := (HN5.keeps HK6 notR_map notR_net).below hb7
        have hR7 := HR6.below hb7
        have hK7 := hK6.trans (Keeps.of hb7 (Nat.le_trans hBw hK6.below.size))
        obtain ⟨vL, vO, hR8⟩ := hR7
        have r2 : w7.cell? ⟨m, 2, none⟩ = some (.int .i64 n'.calls) := by rw [Lib.cell_of_heap hR8.blk]; rfl
        have HQ1 : Hid (∀ q, Calls Tryz.prog 23 #[.pointer (some ⟨b, 0, none⟩)] (w7.drewN q) fun e w' => e = .returned (.int .i64 n'.calls) ∧ w' = w7.drewN q) := fun q => netCalls_any B b (t + 1) n' (w7.drewN q) (hN7.below (below_drewN _ _ _))
        have hqq : ((n'.calls : Int) == (n'.calls : Int)) = true := beq_self_eq_true _
        have HN7 := Lib.hid hN7
        have HR8 := Lib.hid hR8
        clear hN7 hR8 hK6 HK5 HK6 HN5 HR6 hb7 hR5 HC3
        go_wp2_with fail
        go_quiet (first | exact Calls.quiet_of_same (HQ1.out _))
        go_wp2_with fail
        go_ret
        refine ⟨rfl, ?_, ?_, hK7.trans (Keeps.of (below_drewN _ _ _) (Nat.le_trans hBw hK7.below.size))⟩
        · rw [HST.out]; exact HN7.out.below (below_drewN _ _ _)
        · rw [HST.out]; exact ⟨vL, vO, HR8.out.below (below_drewN _ _ _)⟩
end Go.Proofs.YtomceddfbfpjjaaGreatDoor

namespace Go.Proofs.YtomceddfbfpjjaaGreatDoor
open Go Go.RowKit

theorem kn_int (cs : Array Value) : ¬ NetRow (.cells cs 3 (0, 0)) := by
  rintro (⟨es, c, h⟩ | ⟨c, fz, h⟩)
  · cases h
  · injection h with _ h3 _; exact absurd h3 (by decide)
theorem kn_file (cs : Array Value) : ¬ NetRow (.cells cs 68 (0, 0)) := by
  rintro (⟨es, c, h⟩ | ⟨c, fz, h⟩)
  · cases h
  · injection h with _ h3 _; exact absurd h3 (by decide)
theorem kn_fault (cs : Array Value) (fz : Nat × Nat) : ¬ NetRow (.cells cs 50 fz) := by
  rintro (⟨es, c, h⟩ | ⟨c, fz, h⟩)
  · cases h
  · injection h with _ h3 _; exact absurd h3 (by decide)
theorem kn_rheld (cs : Array Value) (fz : Nat × Nat) : ¬ NetRow (.cells cs 82 fz) := by
  rintro (⟨es, c, h⟩ | ⟨c, fz, h⟩)
  · cases h
  · injection h with _ h3 _; exact absurd h3 (by decide)
theorem kn_tree (cs : Array Value) : ¬ NetRow (.cells cs 113 (0, 0)) := by
  rintro (⟨es, c, h⟩ | ⟨c, fz, h⟩)
  · cases h
  · injection h with _ h3 _; exact absurd h3 (by decide)
theorem kr_held (cs : Array Value) (fz : Nat × Nat) : ¬ RNetRow (.cells cs 79 fz) := by
  rintro (⟨c, fz, h⟩ | ⟨c, fz, h⟩) <;> (injection h with _ h3 _; exact absurd h3 (by decide))
theorem kr_int (cs : Array Value) : ¬ RNetRow (.cells cs 3 (0, 0)) := by
  rintro (⟨c, fz, h⟩ | ⟨c, fz, h⟩) <;> (injection h with _ h3 _; exact absurd h3 (by decide))
theorem kr_str (cs : Array Value) : ¬ RNetRow (.cells cs 9 (0, 0)) := by
  rintro (⟨c, fz, h⟩ | ⟨c, fz, h⟩) <;> (injection h with _ h3 _; exact absurd h3 (by decide))
theorem kr_file (cs : Array Value) : ¬ RNetRow (.cells cs 68 (0, 0)) := by
  rintro (⟨c, fz, h⟩ | ⟨c, fz, h⟩) <;> (injection h with _ h3 _; exact absurd h3 (by decide))
theorem kr_fault (cs : Array Value) (fz : Nat × Nat) : ¬ RNetRow (.cells cs 50 fz) := by
  rintro (⟨c, fz, h⟩ | ⟨c, fz, h⟩) <;> (injection h with _ h3 _; exact absurd h3 (by decide))
theorem kr_rheld (cs : Array Value) (fz : Nat × Nat) : ¬ RNetRow (.cells cs 82 fz) := by
  rintro (⟨c, fz, h⟩ | ⟨c, fz, h⟩) <;> (injection h with _ h3 _; exact absurd h3 (by decide))
theorem kr_tree (cs : Array Value) : ¬ RNetRow (.cells cs 113 (0, 0)) := by
  rintro (⟨c, fz, h⟩ | ⟨c, fz, h⟩) <;> (injection h with _ h3 _; exact absurd h3 (by decide))
theorem kh_rnet (cs : Array Value) : ¬ HeldRow (.cells cs 37 (0, 0)) := by
  rintro (⟨_, _, h⟩ | ⟨_, _, h⟩)
  · cases h
  · injection h with _ h _; exact absurd h (by decide)
theorem kh_site (cs : Array Value) : ¬ HeldRow (.cells cs 122 (0, 0)) := by
  rintro (⟨_, _, h⟩ | ⟨_, _, h⟩)
  · cases h
  · injection h with _ h _; exact absurd h (by decide)
theorem kh_str (cs : Array Value) : ¬ HeldRow (.cells cs 9 (0, 0)) := by
  rintro (⟨_, _, h⟩ | ⟨_, _, h⟩)
  · cases h
  · injection h with _ h _; exact absurd h (by decide)
theorem kh_rheld (cs : Array Value) (fz : Nat × Nat) : ¬ HeldRow (.cells cs 82 fz) := by
  rintro (⟨_, _, h⟩ | ⟨_, _, h⟩)
  · cases h
  · injection h with _ h _; exact absurd h (by decide)
theorem kh_tree (cs : Array Value) : ¬ HeldRow (.cells cs 113 (0, 0)) := by
  rintro (⟨_, _, h⟩ | ⟨_, _, h⟩)
  · cases h
  · injection h with _ h _; exact absurd h (by decide)
theorem kq_map (es : Array MapEntry) (c : Nat) : ¬ RHeldRow (.map es c) := fun ⟨_, _, h⟩ => by cases h
theorem kq_net (cs : Array Value) (fz : Nat × Nat) : ¬ RHeldRow (.cells cs 76 fz) := fun ⟨_, _, h⟩ => by injection h with _ h _; exact absurd h (by decide)
theorem kq_held (cs : Array Value) (fz : Nat × Nat) : ¬ RHeldRow (.cells cs 79 fz) := fun ⟨_, _, h⟩ => by injection h with _ h _; exact absurd h (by decide)
theorem kq_rnet (cs : Array Value) : ¬ RHeldRow (.cells cs 37 (0, 0)) := fun ⟨_, _, h⟩ => by injection h with _ h _; exact absurd h (by decide)
theorem kq_site (cs : Array Value) : ¬ RHeldRow (.cells cs 122 (0, 0)) := fun ⟨_, _, h⟩ => by injection h with _ h _; exact absurd h (by decide)
theorem kq_str (cs : Array Value) : ¬ RHeldRow (.cells cs 9 (0, 0)) := fun ⟨_, _, h⟩ => by injection h with _ h _; exact absurd h (by decide)
theorem kq_int (cs : Array Value) : ¬ RHeldRow (.cells cs 3 (0, 0)) := fun ⟨_, _, h⟩ => by injection h with _ h _; exact absurd h (by decide)
theorem kq_file (cs : Array Value) : ¬ RHeldRow (.cells cs 68 (0, 0)) := fun ⟨_, _, h⟩ => by injection h with _ h _; exact absurd h (by decide)

/-- A held behind a net: the net's turns leave it. -/
theorem HeldIs.apartN {w w' : World} {B B2 b c : Nat} {h : HeldB} (hi : HeldIs w B b h) (hk : KeepsU 4 c NetRow B2 w w') (hd : c + 2 ≤ b) : HeldIs w' B b h := by
  obtain ⟨h0, ov, mb, f, hA⟩ := hi
  have hl := hA.hlt
  have h1 := (Array.getElem?_eq_some_iff.1 hA.blk).1
  exact ⟨h0, ov, mb, f, { hb := hA.hb, hm := hA.hm, hlt := hA.hlt, blk := (hk.span b h1 (by omega)).trans hA.blk, order := hk.toKeeps.owns hA.order kn_int, map := hA.map.keep (hk.span mb hA.map.lt (by omega)), vals := fun n => (hA.vals n).keeps hk.toKeeps kn_file }⟩
theorem HeldIs.keepR {w w' : World} {B B2 b : Nat} {h : HeldB} (hi : HeldIs w B b h) (hk : Keeps RNetRow B2 w w') : HeldIs w' B b h := hi.keeps hk notR_map kr_held kr_int kr_file
theorem HeldIs.keepQ {w w' : World} {B B2 b : Nat} {h : HeldB} (hi : HeldIs w B b h) (hk : Keeps RHeldRow B2 w w') : HeldIs w' B b h := hi.keeps hk kq_map kq_held kq_int kq_file
theorem HeldIs.betw {w w' : World} {B B2 b c : Nat} {h : HeldB} (hi : HeldIs w B b h) (hk : Betw c B2 w w') (hd : c + 2 ≤ b) : HeldIs w' B b h := by
  obtain ⟨w5, h1, h2⟩ := hk
  exact (hi.apartN h1 hd).keepR h2
/-- A net before a held: the held's turns leave it. -/
theorem NetIs.apartH {w w' : World} {B B2 b c t : Nat} {n : NetB} (h : NetIs w B b n t) (hk : KeepsU 2 c HeldRow B2 w w') (hd : b + 2 ≤ c) : NetIs w' B b n t := by
  obtain ⟨h0, bt, bo, bc, mo, mc, fo, hA⟩ := h
  have e1 := hA.et
  have e2 := hA.eo
  have e3 := hA.ec
  exact ⟨h0, bt, bo, bc, mo, mc, fo, { hA with
    blk := (hk.span b (Array.getElem?_eq_some_iff.1 hA.blk).1 (by omega)).trans hA.blk
    texts := hA.texts.keep (hk.span bt hA.texts.lt (by omega))
    offs := hA.offs.keep (hk.span bo hA.offs.lt (by omega))
    cuts := hA.cuts.keep (hk.span bc hA.cuts.lt (by omega)) }⟩
theorem NetIs.keepR {w w' : World} {B B2 b t : Nat} {n : NetB} (h : NetIs w B b n t) (hk : Keeps RNetRow B2 w w') : NetIs w' B b n t := h.keeps hk notR_map notR_net
theorem NetIs.keepQ {w w' : World} {B B2 b t : Nat} {n : NetB} (h : NetIs w B b n t) (hk : Keeps RHeldRow B2 w w') : NetIs w' B b n t := h.keeps hk kq_map kq_net
theorem RNetIs.keepN {w w' : World} {B B2 m : Nat} {n : NetB} (h : RNetIs w B m n) (hk : Keeps NetRow B2 w w') : RNetIs w' B m n := h.keeps hk notN_r notN_s notN_str
theorem RNetIs.keepH {w w' : World} {B B2 m : Nat} {n : NetB} (h : RNetIs w B m n) (hk : Keeps HeldRow B2 w w') : RNetIs w' B m n := h.keeps hk kh_rnet kh_site kh_str
theorem RNetIs.keepQ {w w' : World} {B B2 m : Nat} {n : NetB} (h : RNetIs w B m n) (hk : Keeps RHeldRow B2 w w') : RNetIs w' B m n := h.keeps hk kq_rnet kq_site kq_str
theorem RNetIs.low {w : World} {B B2 m : Nat} {n : NetB} (h : RNetIs w B m n) (hb : B2 ≤ B) : RNetIs w B2 m n := by
  obtain ⟨vL, vO, h⟩ := h
  exact ⟨vL, vO, Nat.le_trans hb h.hm, h.blk, ownsRow_low h.sites hb, ownsRow_low h.offs hb⟩
theorem RHeldIs.keepN {W0 w w' : World} {B B2 b : Nat} {h : HeldB} (hi : RHeldIs W0 w B b h) (hk : Keeps NetRow B2 w w') : RHeldIs W0 w' B b h := hi.keeps hk kn_rheld kn_tree kn_file
theorem RHeldIs.keepR {W0 w w' : World} {B B2 b : Nat} {h : HeldB} (hi : RHeldIs W0 w B b h) (hk : Keeps RNetRow B2 w w') : RHeldIs W0 w' B b h := hi.keeps hk kr_rheld kr_tree kr_file
theorem RHeldIs.keepH {W0 w w' : World} {B B2 b : Nat} {h : HeldB} (hi : RHeldIs W0 w B b h) (hk : Keeps HeldRow B2 w w') : RHeldIs W0 w' B b h := hi.keeps hk kh_rheld kh_tree heldRow_files
theorem RHeldIs.betw {W0 w w' : World} {B B2 b c : Nat} {h : HeldB} (hi : RHeldIs W0 w B b h) (hk : Betw c B2 w w') : RHeldIs W0 w' B b h := by
  obtain ⟨w5, h1, h2⟩ := hk
  exact (hi.keepN h1.toKeeps).keepR h2
theorem NetIs.lt {w : World} {B b t : Nat} {n : NetB} (h : NetIs w B b n t) : b < w.heap.size := by
  obtain ⟨_, _, _, _, _, _, _, hA⟩ := h
  exact (Array.getElem?_eq_some_iff.1 hA.blk).1
theorem HeldIs.le {w : World} {B b : Nat} {h : HeldB} (hi : HeldIs w B b h) : B + 1 ≤ b := by
  obtain ⟨_, _, _, _, hA⟩ := hi
  have := hA.hm
  have := hA.hlt
  omega
/-- A text's cell is no cell of a net's. -/
theorem cell_net {w w' : World} {B B2 b t c o : Nat} {n : NetB} {x : ByteArray} (hn : NetIs w B b n t) (hk : KeepsU 4 b NetRow B2 w w') (h : w.cell? ⟨c, o, none⟩ = some (.string x)) : w'.cell? ⟨c, o, none⟩ = some (.string x) := by
  obtain ⟨_, bt, bo, bc, mo, mc, fo, hA⟩ := hn
  rw [← h]
  refine World.cell?_of_block (w := w) ?_
  show w'.heap[c]? = w.heap[c]?
  by_cases hs : b < c ∨ c + 4 ≤ b
  · exact hk.span c (World.block_lt_of_cell? w ⟨c, o, none⟩ h) hs
  · exfalso
    have hm : ∀ (R : Value → Option (DataW Unit × List MemPlace)) (m : Nat) (f : ByteArray → Option (DataW Unit)), MapIs R w c m f → False := fun R m f hc => by
      obtain ⟨es, cl, he⟩ := hc.isMap
      simp [World.cell?, he] at h
    have e1 := hA.et
    have e2 := hA.eo
    have e3 := hA.ec
    have : c = b ∨ c = bt ∨ c = bo ∨ c = bc := by omega
    rcases this with rfl | rfl | rfl | rfl
    · rw [Lib.cell_of_heap hA.blk] at h
      match o with
      | 0 => simp at h
      | 1 => simp at h
      | 2 => simp at h
      | 3 => simp at h
      | o + 4 => simp at h
    · exact hm _ _ _ hA.texts
    · exact hm _ _ _ hA.offs
    · exact hm _ _ _ hA.cuts
end Go.Proofs.YtomceddfbfpjjaaGreatDoor

namespace Go.Proofs.YtomceddfbfpjjaaGreatDoor
open Go Go.RowKit

/-- Acts that came in. -/
def ARow (w : World) (v : Value) (l : List ActB) : Prop :=
  ∃ ao cap, v = .slice ao l.length cap ∧ l.length ≤ cap ∧ cap ≤ maxLen ∧ (∀ i, i < l.length → ∃ b off, ao = some ⟨b, off, none⟩ ∧ b < w.heap.size ∧
    ∀ k, (hk : k < l.length) → w.cell? ⟨b, off + k * 5, none⟩ = some (.string l[k].kind) ∧ w.cell? ⟨b, off + k * 5 + 1, none⟩ = some (.string l[k].url) ∧ w.cell? ⟨b, off + k * 5 + 2, none⟩ = some (.string l[k].s) ∧ w.cell? ⟨b, off + k * 5 + 3, none⟩ = some (.int .i64 l[k].n) ∧ w.cell? ⟨b, off + k * 5 + 4, none⟩ = some (.bool l[k].on) ∧ -9223372036854775808 ≤ l[k].n ∧ l[k].n ≤ 9223372036854775807)
theorem ARow.ext {w w' : World} {v : Value} {l : List ActB} (h : ARow w v l) (hb : Below w.heap.size w w') : ARow w' v l := by
  obtain ⟨ao, cap, h1, h2, h3, h4⟩ := h
  refine ⟨ao, cap, h1, h2, h3, fun i hi => ?_⟩
  obtain ⟨b, off, e, hbl, hc⟩ := h4 i hi
  refine ⟨b, off, e, Nat.lt_of_lt_of_le hbl hb.size, fun k hk => ?_⟩
  obtain ⟨q0, q1, q2, q3, q4, q5⟩ := hc k hk
  exact ⟨by rw [hb.cell (p := ⟨b, off + k * 5, none⟩) hbl]; exact q0, by rw [hb.cell (p := ⟨b, off + k * 5 + 1, none⟩) hbl]; exact q1, by rw [hb.cell (p := ⟨b, off + k * 5 + 2, none⟩) hbl]; exact q2,
    by rw [hb.cell (p := ⟨b, off + k * 5 + 3, none⟩) hbl]; exact q3, by rw [hb.cell (p := ⟨b, off + k * 5 + 4, none⟩) hbl]; exact q4, q5⟩
def SmallA (a : ActB) : Prop := a.url.size ≤ 120 ∧ (a.s.size ≤ 2000 ∨ a.s.size = 20001)
/-- What LongActs answers. -/
def ActsPost (l : List ActB) (most : Nat) (w : World) (e : Ending) (w' : World) : Prop :=
  ((e = .returned (.int .i64 0) ∧ l.length ≤ most ∧ Hid (∀ k, (hk : k < l.length) → SmallA l[k])) ∨ e = .returned (.int .i64 1)) ∧ w' = w

set_option maxHeartbeats 1000000 in
set_option maxRecDepth 100000 in
theorem longActs_any (v : Value) (l : List ActB) (most : Nat) (w : World) (hm : most ≤ 1000000) (hv : ARow w v l) : Calls Tryz.prog 6 #[v, .int .i64 most] w (ActsPost l most w) := by
  obtain ⟨ao, cap, rfl, h1, h2, H3⟩ := hv
  have HM := Lib.hid H3
  clear H3
  go_enter Tryz.func6, Tryz.ntmps6
  by_cases hl : l.length ≤ most
  · have hml : decide (most < l.length) = false := decide_eq_false (by omega)
    go_wp2_with fail
    go_loopw [5] (fun i wr => ∃ k : Nat, k ≤ l.length ∧ i = .int .i64 k ∧ Hid (∀ j, (hj : j < l.length) → j < k → SmallA l[j]) ∧ wr = w) (fun i _ => l.length - (intOf i).toNat)
    case atStart => exact ⟨0, Nat.zero_le _, rfl, (fun j _ hj => absurd hj (Nat.not_lt_zero _)), rfl⟩
    case round =>
      obtain ⟨k, hk, rfl, HJ, rfl⟩ := hrel
      by_cases hlt : k < l.length
      · obtain ⟨b, off, rfl, hbl, hcell⟩ := HM.out k hlt
        obtain ⟨q0, q1, q2, q3, q4, q5⟩ := hcell k hlt
        clear hcell q0 q3 q4 q5
        obtain ⟨a, ha⟩ : ∃ a, l[k] = a := ⟨_, rfl⟩
        rw [ha] at q1 q2
        have HA := Lib.hid ha
        clear ha
        by_cases hu : a.url.size ≤ 120
        · by_cases hs : a.s.size ≤ 2000
          · have H2 : Hid (∀ j, (hj : j < l.length) → j < k + 1 → SmallA l[j]) := by
              intro j hj hjk
              by_cases hjk' : j < k
              · exact HJ.out j hj hjk'
              · obtain rfl : j = k := by omega
                rw [HA.out]
                exact ⟨hu, .inl hs⟩
            clear HJ
            go_wp2_with fail
            go_roundw
            case rel => first | exact ⟨k + 1, by omega, by go_num, H2⟩ | exact ⟨k + 1, by omega, by go_num, H2, trivial⟩
            case measure => simp [intOf]; omega
          · by_cases hs2 : a.s.size ≤ 20000
            · have hne : ((a.s.size : Int) != 20001) = true := by rw [bne_iff_ne]; omega
              go_wp2_with fail
              go_ret
              exact ⟨.inr rfl, rfl⟩
            · by_cases hs3 : a.s.size ≤ 20001
              · have hne : ((a.s.size : Int) != 20001) = false := by rw [bne_eq_false_iff_eq]; omega
                have H2 : Hid (∀ j, (hj : j < l.length) → j < k + 1 → SmallA l[j]) := by
                  intro j hj hjk
                  by_cases hjk' : j < k
                  · exact HJ.out j hj hjk'
                  · obtain rfl : j = k := by omega
                    rw [HA.out]
                    exact ⟨hu, .inr (by omega)⟩
                clear HJ
                go_wp2_with fail
                go_roundw
                case rel => first | exact ⟨k + 1, by omega, by go_num, H2⟩ | exact ⟨k + 1, by omega, by go_num, H2, trivial⟩
                case measure => simp [intOf]; omega
              · have hne : ((a.s.size : Int) != 20001) = true := by rw [bne_iff_ne]; omega
                go_wp2_with fail
                go_ret
                exact ⟨.inr rfl, rfl⟩
        · go_wp2_with fail
          go_ret
          exact ⟨.inr rfl, rfl⟩
      · obtain rfl : k = l.length := by omega
        have H2 : Hid (∀ k, (hk : k < l.length) → SmallA l[k]) := fun j hj => HJ.out j hj hj
        clear HJ
        go_wp2_with fail
        go_ret
        exact ⟨.inl ⟨rfl, hl, H2⟩, rfl⟩
  · go_wp2_with fail
    go_ret
    exact ⟨.inr rfl, rfl⟩

theorem stepN_off (n : NetB) (a : ActB) : (stepN n a).off.length ≤ n.off.length + 1 := by
  have h1 : (putN n a.url a.s).2.off = n.off := by
    unfold putN
    split
    · rfl
    · split
      · rfl
      · split
        · rfl
        · split <;> rfl
  have h2 : (hostN n a.url a.on).2.off.length ≤ n.off.length + 1 := by
    unfold hostN
    split
    · show (List.filter _ n.off ++ _).length ≤ _
      rw [List.length_append]
      exact Nat.add_le_add (List.length_filter_le _ _) (by split <;> simp)
    · exact Nat.le_succ _
  have h3 : (cutN n a.url a.n).2.off = n.off := by
    unfold cutN
    split
    · rfl
    · split <;> rfl
  have h4 : (getN n a.url).2.2.off = n.off := by
    unfold getN
    split
    · rfl
    · split
      · rfl
      · split <;> rfl
  unfold stepN
  split
  · rw [h1]; exact Nat.le_succ _
  · split
    · exact h2
    · split
      · rw [h3]; exact Nat.le_succ _
      · rw [h4]; exact Nat.le_succ _
theorem gE_lt {E : Nat → Addr} {w : World} (h : Env E w) (k : Nat) (hk : k < 13) : gE k < w.heap.size := Lib.lt_of_cell (h.err k hk)

end Go.Proofs.YtomceddfbfpjjaaGreatDoor
