/- chandlerylaw2.Do: an act on both nets: the contract. -/
import Derived.Test.YtpafddeakanopaaDoorNetOf
import Derived.Test.YtpafddeakanopaaDoorRefNetGet
import Derived.Test.YtpafddeakanopaaDoorCodedTwo
import Derived.Deep.RegionHeld3
import Derived.Deep.QuietTactic
import Derived.BigQuiet
namespace Go.Proofs.YtpafddeakanopaaDoor
open Go Go.RowKit

/-- What a statement's input names: kind, URL, S, N, On. -/
structure ActB where
  kind : ByteArray
  url : ByteArray
  s : ByteArray
  n : Int
  on : Bool
abbrev actV (a : ActB) : Array Value := #[.string a.kind, .string a.url, .string a.s, .int .i64 a.n, .bool a.on]
def kPut : List UInt8 := [112, 117, 116]
def kHost : List UInt8 := [104, 111, 115, 116]
def kCut : List UInt8 := [99, 117, 116]
def stepN (n : NetB) (a : ActB) : NetB :=
  if (a.kind.toList == kPut) = true then (putN n a.url a.s).2 else if (a.kind.toList == kHost) = true then (hostN n a.url a.on).2 else if (a.kind.toList == kCut) = true then (cutN n a.url a.n).2 else (getN n a.url).2.2
theorem putN_le (n : NetB) (u s : ByteArray) : (putN n u s).1 ≤ 13 := by
  unfold putN
  split
  · exact linkE_le _
  · split
    · exact Nat.le_of_ble_eq_true rfl
    · split
      · exact Nat.le_of_ble_eq_true rfl
      · split <;> exact Nat.le_of_ble_eq_true rfl
theorem hostN_le (n : NetB) (u : ByteArray) (on : Bool) : (hostN n u on).1 ≤ 13 := by unfold hostN; split <;> exact Nat.le_of_ble_eq_true rfl
theorem cutN_le (n : NetB) (u : ByteArray) (k : Int) : (cutN n u k).1 ≤ 13 := by
  unfold cutN
  split
  · exact Nat.le_of_ble_eq_true rfl
  · split <;> exact Nat.le_of_ble_eq_true rfl
theorem getN_le (n : NetB) (u : ByteArray) : (getN n u).2.1 ≤ 13 := by
  unfold getN
  split
  · exact linkE_le _
  · split
    · exact Nat.le_of_ble_eq_true rfl
    · split <;> exact Nat.le_of_ble_eq_true rfl

def NRRow (o : Obj) : Prop := NetRow o ∨ RNetRow o
theorem Keeps.wide {K L : Obj → Prop} {B : Nat} {w w' : World} (h : Keeps K B w w') (hk : ∀ o, K o → L o) : Keeps L B w w' := ⟨h.below, fun k o ho hn => h.keep k o ho (fun hK => hn (hk o hK))⟩
theorem notN_r (cs : Array Value) : ¬ NetRow (.cells cs 74 (0, 0)) := by
  rintro (⟨es, c, h⟩ | ⟨c, fz, h⟩)
  · cases h
  · injection h with _ h3 _; exact absurd h3 (by decide)
theorem notN_s (cs : Array Value) : ¬ NetRow (.cells cs 120 (0, 0)) := by
  rintro (⟨es, c, h⟩ | ⟨c, fz, h⟩)
  · cases h
  · injection h with _ h3 _; exact absurd h3 (by decide)
theorem notN_str (cs : Array Value) : ¬ NetRow (.cells cs 9 (0, 0)) := by
  rintro (⟨es, c, h⟩ | ⟨c, fz, h⟩)
  · cases h
  · injection h with _ h3 _; exact absurd h3 (by decide)
theorem notN_act (cs : Array Value) : ¬ NetRow (.cells cs 64 (0, 0)) := by
  rintro (⟨es, c, h⟩ | ⟨c, fz, h⟩)
  · cases h
  · injection h with _ h3 _; exact absurd h3 (by decide)
theorem notR_act (cs : Array Value) : ¬ RNetRow (.cells cs 64 (0, 0)) := by
  rintro (⟨c, fz, h⟩ | ⟨c, fz, h⟩) <;> (injection h with _ h3 _; exact absurd h3 (by decide))
theorem notR_map (es : Array MapEntry) (c : Nat) : ¬ RNetRow (.map es c) := by
  rintro (⟨c, fz, h⟩ | ⟨c, fz, h⟩) <;> cases h
theorem notR_net (cs : Array Value) (fz : Nat × Nat) : ¬ RNetRow (.cells cs 95 fz) := by
  rintro (⟨c, fz, h⟩ | ⟨c, fz, h⟩) <;> (injection h with _ h3 _; exact absurd h3 (by decide))

/-- What Do leaves: both are the net behind the act. -/
def DoPost (B b m t : Nat) (n' : NetB) (w : World) (e : Ending) (w' : World) : Prop :=
  e = .returned (.int .i64 1) ∧ NetIs w' B b n' (t + 1) ∧ RNetIs w' B m n' ∧ Keeps NRRow B w w'
theorem codedC {E : Nat → Addr} {w : World} {c : Nat} {cv : Value} {co : Int} (hE : Env E w) (h : c ≤ 13) (h1 : cv = errV E c) (h2 : co = (c : Int)) : Calls Tryd.prog 36 #[cv, .int .i64 co] w fun e w' => e = .returned (.bool true) ∧ Below w.heap.size w w' := by
  subst h1; subst h2; exact errCoded2 hE h

set_option maxHeartbeats 4000000 in
set_option maxRecDepth 100000 in
theorem do_any {E : Nat → Addr} (B b m t : Nat) (n : NetB) (a : ActB) (w : World) (h : NetIs w B b n t) (hr : RNetIs w B m n) (ht : t < 100000000) (ho : n.off.length ≤ 1000000) (hu : a.url.size ≤ 100000) (hs : a.s.size ≤ 1000000) (hn : -9223372036854775808 ≤ a.n ∧ a.n ≤ 9223372036854775807)
    (hBw : B ≤ w.heap.size) (hEB : ∀ W, Below B w W → NEnv E W) (hG : ∀ k, k < 13 → gE k < B) :
    Calls Tryd.prog 38 #[.pointer (some ⟨b, 0, none⟩), .pointer (some ⟨m, 0, none⟩), .agg (actV a)] w (DoPost B b m t (stepN n a) w) := by
  obtain ⟨kd, u, s, k, on⟩ := a
  dsimp only at hu hs hn
  obtain ⟨pa, hpa⟩ : ∃ pa, w.heap.size = pa := ⟨_, rfl⟩
  obtain ⟨wa, hwa⟩ : ∃ wa, w.alloc (.cells #[.string kd, .string u, .string s, .int .i64 k, .bool on] 64) = wa := ⟨_, rfl⟩
  have hal : Below w.heap.size w wa := by rw [← hwa]; exact (Below.refl _ _).alloc (Nat.le_refl _) _
  have hA : wa.heap[pa]? = some (.cells #[.string kd, .string u, .string s, .int .i64 k, .bool on] 64 (0, 0)) := by rw [← hwa, ← hpa]; exact heap_alloc_new _ _
  have hKa : Keeps NRRow B w wa := Keeps.of hal hBw
  have HNa := Lib.hid (h.below hal)
  have HRa := Lib.hid (hr.below hal)
  have hBa : B ≤ wa.heap.size := Nat.le_trans hBw hal.size
  have HRd : Hid (RNetIs wa.drew B m n) := HRa.out.below (below_drewN _ _ 1)
  have hKd : Keeps NRRow B w wa.drew := hKa.trans (Keeps.of (below_drewN _ _ 1) hBa)
  have HF := Lib.hid hEB
  have hok := h.1
  have Hok := Lib.hid hok
  have hcl : n.calls ≤ t := by
    obtain ⟨_, _, _, _, _, _, _, h1⟩ := h
    exact h1.hcl
  have HPA := Lib.hid hpa
  have HWA := Lib.hid hwa
  have HG := Lib.hid hG
  have HA := Lib.hid hA
  have hcells : ∀ W : World, W.heap[pa]? = some (.cells #[.string kd, .string u, .string s, .int .i64 k, .bool on] 64 (0, 0)) → W.cell? ⟨pa, 1, none⟩ = some (.string u) ∧ W.cell? ⟨pa, 2, none⟩ = some (.string s) ∧ W.cell? ⟨pa, 3, none⟩ = some (.int .i64 k) ∧ W.cell? ⟨pa, 4, none⟩ = some (.bool on) := by
    intro W hW
    exact ⟨by rw [Lib.cell_of_heap hW]; rfl, by rw [Lib.cell_of_heap hW]; rfl, by rw [Lib.cell_of_heap hW]; rfl, by rw [Lib.cell_of_heap hW]; rfl⟩
  have HCE := Lib.hid hcells
  obtain ⟨a1, a2, a3, a4⟩ := hcells wa hA
  have hEw := Lib.hid (hEB wa hKa.below)
  clear h hr hpa hwa hal hA hEB hG hok hcells
  obtain ⟨KP, hKP⟩ : ∃ KP : Bool, (kd.toList == [112, 117, 116]) = KP := ⟨_, rfl⟩
  cases KP with
  | true =>
    obtain ⟨c, n', hr⟩ : ∃ c n', putN n u s = (c, n') := ⟨_, _, rfl⟩
    have hst : stepN n ⟨kd, u, s, k, on⟩ = n' := by unfold stepN; dsimp only; rw [if_pos (show (kd.toList == kPut) = true from hKP)]; rw [hr]
    have hc13 : c ≤ 13 := by have := putN_le n u s; rw [hr] at this; exact this
    have C1 := netPut_any B b t n u s wa.drew (HNa.out.below (below_drewN _ _ 1)) hu (by omega) hBa (hEw.out.ext (below_drewN _ _ 1))
    rw [hr] at C1
    have C2 : ∀ W, RNetIs W B m n → B ≤ W.heap.size → Calls Tryd.prog 54 #[.pointer (some ⟨m, 0, none⟩), .string u, .string s] W (RNetPost B m (c, n') W) := by
      intro W hW hB
      have := refPut_net B m n u s W hW Hok.out hu (by omega) hB
      rw [hr] at this
      exact this
    unfold NetPost at C1
    unfold RNetPost at C2
    dsimp only at C1 C2
    have C3 : ∀ W, Below B w W → Calls Tryd.prog 36 #[errV E c, .int .i64 c] W fun e w' => e = .returned (.bool true) ∧ Below W.heap.size W w' := fun W hW => codedC (HF.out W hW).1 hc13 rfl rfl
    generalize errV E c = cv at C1 C3
    generalize (c : Int) = co at C2 C3
    have HC1 := Lib.hid C1
    have HC2 := Lib.hid C2
    have HC3 := Lib.hid C3
    have HST := Lib.hid hst
    clear C1 C2 C3 hr hst hc13
    go_enter Tryd.func38, Tryd.ntmps38
    go_wp2_with fail
    rw [HWA.out, HPA.out]
    go_region_held3 (fun W : World => W.cell? ⟨pa, 1, none⟩ = some (.string u) ∧ W.cell? ⟨pa, 2, none⟩ = some (.string s)) (first | exact ⟨d1, d2⟩ | exact ⟨c1, c2⟩ | exact ⟨b1, b2⟩ | exact ⟨a1, a2⟩)
      (first
        | (go_at_call 33; refine HC1.out.mono ?_; rintro e w5 ⟨rfl, HN5, HK5⟩; have hA5 := HK5.keep pa _ HA.out (notN_act _); obtain ⟨b1, b2, b3, b4⟩ := HCE.out w5 hA5; have hR5 := Lib.hid (HRd.out.keeps HK5 notN_r notN_s notN_str))
        | (go_at_call 54; refine (HC2.out w5 hR5.out (Nat.le_trans hBa HK5.below.size)).mono ?_; rintro e w6 ⟨rfl, HR6, HK6⟩; have hA6 := HK6.keep pa _ hA5 (notR_act _); obtain ⟨c1, c2, c3, c4⟩ := HCE.out w6 hA6; have hK6 : Keeps NRRow B w w6 := hKd.trans ((HK5.wide fun o h => .inl h).trans (HK6.wide fun o h => .inr h)))
        | (go_at_call 36; refine (HC3.out w6 hK6.below).mono ?_; rintro e w7 ⟨rfl, hb7⟩; have hA7 : w7.heap[pa]? = _ := (hb7.block pa (Array.getElem?_eq_some_iff.1 hA6).1).trans hA6; obtain ⟨d1, d2, d3, d4⟩ := HCE.out w7 hA7))
    have hN7 := (HN5.keeps HK6 notR_map notR_net).below hb7
    have hR7 := HR6.below hb7
    have hK7 := hK6.trans (Keeps.of hb7 (Nat.le_trans hBw hK6.below.size))
    obtain ⟨vL, vO, hR8⟩ := hR7
    have r2 : w7.cell? ⟨m, 2, none⟩ = some (.int .i64 n'.calls) := by rw [Lib.cell_of_heap hR8.blk]; rfl
    have HQ1 : Hid (∀ q, Calls Tryd.prog 51 #[.pointer (some ⟨b, 0, none⟩)] (w7.drewN q) fun e w' => e = .returned (.int .i64 n'.calls) ∧ w' = w7.drewN q) := fun q => netCalls_any B b (t + 1) n' (w7.drewN q) (hN7.below (below_drewN _ _ _))
    have hqq : ((n'.calls : Int) == (n'.calls : Int)) = true := beq_self_eq_true _
    have HN7 := Lib.hid hN7
    have HR8 := Lib.hid hR8
    clear hN7 hR8 hK6 HK5 HK6 HN5 HR6 hb7 hR5 hA5 hA6 hA7 b1 b2 b3 b4 c1 c2 c3 c4 d1 d2 d3 d4 HC1 HC2 HC3 a1 a2 a3 a4
    go_wp2_with fail
    go_quiet (first | exact Calls.quiet_of_same (HQ1.out _))
    go_wp2_with fail
    go_ret
    refine ⟨rfl, ?_, ?_, hK7.trans (Keeps.of (below_drewN _ _ _) (Nat.le_trans hBw hK7.below.size))⟩
    · rw [HST.out]; exact HN7.out.below (below_drewN _ _ _)
    · rw [HST.out]; exact ⟨vL, vO, HR8.out.below (below_drewN _ _ _)⟩
  | false =>
    obtain ⟨KH, hKH⟩ : ∃ KH : Bool, (kd.toList == [104, 111, 115, 116]) = KH := ⟨_, rfl⟩
    cases KH with
    | true =>
      obtain ⟨c, n', hr⟩ : ∃ c n', hostN n u on = (c, n') := ⟨_, _, rfl⟩
      have hst : stepN n ⟨kd, u, s, k, on⟩ = n' := by unfold stepN; dsimp only; rw [if_neg (by rw [show (kd.toList == kPut) = false from hKP]; simp), if_pos (show (kd.toList == kHost) = true from hKH)]; rw [hr]
      have hc13 : c ≤ 13 := by have := hostN_le n u on; rw [hr] at this; exact this
      have C1 := netHost_any B b t n u on wa.drew (HNa.out.below (below_drewN _ _ 1)) (by omega) hu hBa (hEw.out.ext (below_drewN _ _ 1))
      rw [hr] at C1
      have C2 : ∀ W, RNetIs W B m n → B ≤ W.heap.size → Calls Tryd.prog 55 #[.pointer (some ⟨m, 0, none⟩), .string u, .bool on] W (RNetPost B m (c, n') W) := by
        intro W hW hB
        have := refHost_net B m n u on W hW ho hu hB
        rw [hr] at this
        exact this
      unfold NetPost at C1
      unfold RNetPost at C2
      dsimp only at C1 C2
      have C3 : ∀ W, Below B w W → Calls Tryd.prog 36 #[errV E c, .int .i64 c] W fun e w' => e = .returned (.bool true) ∧ Below W.heap.size W w' := fun W hW => codedC (HF.out W hW).1 hc13 rfl rfl
      generalize errV E c = cv at C1 C3
      generalize (c : Int) = co at C2 C3
      have HC1 := Lib.hid C1
      have HC2 := Lib.hid C2
      have HC3 := Lib.hid C3
      have HST := Lib.hid hst
      clear C1 C2 C3 hr hst hc13
      go_enter Tryd.func38, Tryd.ntmps38
      go_wp2_with fail
      rw [HWA.out, HPA.out]
      go_region_held3 (fun W : World => W.cell? ⟨pa, 1, none⟩ = some (.string u) ∧ W.cell? ⟨pa, 4, none⟩ = some (.bool on)) (first | exact ⟨d1, d4⟩ | exact ⟨c1, c4⟩ | exact ⟨b1, b4⟩ | exact ⟨a1, a4⟩)
        (first
          | (go_at_call 34; refine HC1.out.mono ?_; rintro e w5 ⟨rfl, HN5, HK5⟩; have hA5 := HK5.keep pa _ HA.out (notN_act _); obtain ⟨b1, b2, b3, b4⟩ := HCE.out w5 hA5; have hR5 := Lib.hid (HRd.out.keeps HK5 notN_r notN_s notN_str))
          | (go_at_call 55; refine (HC2.out w5 hR5.out (Nat.le_trans hBa HK5.below.size)).mono ?_; rintro e w6 ⟨rfl, HR6, HK6⟩; have hA6 := HK6.keep pa _ hA5 (notR_act _); obtain ⟨c1, c2, c3, c4⟩ := HCE.out w6 hA6; have hK6 : Keeps NRRow B w w6 := hKd.trans ((HK5.wide fun o h => .inl h).trans (HK6.wide fun o h => .inr h)))
          | (go_at_call 36; refine (HC3.out w6 hK6.below).mono ?_; rintro e w7 ⟨rfl, hb7⟩; have hA7 : w7.heap[pa]? = _ := (hb7.block pa (Array.getElem?_eq_some_iff.1 hA6).1).trans hA6; obtain ⟨d1, d2, d3, d4⟩ := HCE.out w7 hA7))
      have hN7 := (HN5.keeps HK6 notR_map notR_net).below hb7
      have hR7 := HR6.below hb7
      have hK7 := hK6.trans (Keeps.of hb7 (Nat.le_trans hBw hK6.below.size))
      obtain ⟨vL, vO, hR8⟩ := hR7
      have r2 : w7.cell? ⟨m, 2, none⟩ = some (.int .i64 n'.calls) := by rw [Lib.cell_of_heap hR8.blk]; rfl
      have HQ1 : Hid (∀ q, Calls Tryd.prog 51 #[.pointer (some ⟨b, 0, none⟩)] (w7.drewN q) fun e w' => e = .returned (.int .i64 n'.calls) ∧ w' = w7.drewN q) := fun q => netCalls_any B b (t + 1) n' (w7.drewN q) (hN7.below (below_drewN _ _ _))
      have hqq : ((n'.calls : Int) == (n'.calls : Int)) = true := beq_self_eq_true _
      have HN7 := Lib.hid hN7
      have HR8 := Lib.hid hR8
      clear hN7 hR8 hK6 HK5 HK6 HN5 HR6 hb7 hR5 hA5 hA6 hA7 b1 b2 b3 b4 c1 c2 c3 c4 d1 d2 d3 d4 HC1 HC2 HC3 a1 a2 a3 a4
      go_wp2_with fail
      go_quiet (first | exact Calls.quiet_of_same (HQ1.out _))
      go_wp2_with fail
      go_ret
      refine ⟨rfl, ?_, ?_, hK7.trans (Keeps.of (below_drewN _ _ _) (Nat.le_trans hBw hK7.below.size))⟩
      · rw [HST.out]; exact HN7.out.below (below_drewN _ _ _)
      · rw [HST.out]; exact ⟨vL, vO, HR8.out.below (below_drewN _ _ _)⟩
    | false =>
      obtain ⟨KC, hKC⟩ : ∃ KC : Bool, (kd.toList == [99, 117, 116]) = KC := ⟨_, rfl⟩
      cases KC with
      | true =>
        obtain ⟨c, n', hr⟩ : ∃ c n', cutN n u k = (c, n') := ⟨_, _, rfl⟩
        have hst : stepN n ⟨kd, u, s, k, on⟩ = n' := by unfold stepN; dsimp only; rw [if_neg (by rw [show (kd.toList == kPut) = false from hKP]; simp), if_neg (by rw [show (kd.toList == kHost) = false from hKH]; simp), if_pos (show (kd.toList == kCut) = true from hKC)]; rw [hr]
        have hc13 : c ≤ 13 := by have := cutN_le n u k; rw [hr] at this; exact this
        have C1 := netCut_any B b t n u k wa.drew (HNa.out.below (below_drewN _ _ 1)) (by omega) hu hn hBa (hEw.out.ext (below_drewN _ _ 1))
        rw [hr] at C1
        have C2 : ∀ W, RNetIs W B m n → B ≤ W.heap.size → Calls Tryd.prog 56 #[.pointer (some ⟨m, 0, none⟩), .string u, .int .i64 k] W (RNetPost B m (c, n') W) := by
          intro W hW hB
          have := refSetCut_net B m n u k W hW Hok.out ⟨hn.2, hn.1⟩ hB
          rw [hr] at this
          exact this
        unfold NetPost at C1
        unfold RNetPost at C2
        dsimp only at C1 C2
        have C3 : ∀ W, Below B w W → Calls Tryd.prog 36 #[errV E c, .int .i64 c] W fun e w' => e = .returned (.bool true) ∧ Below W.heap.size W w' := fun W hW => codedC (HF.out W hW).1 hc13 rfl rfl
        generalize errV E c = cv at C1 C3
        generalize (c : Int) = co at C2 C3
        have HC1 := Lib.hid C1
        have HC2 := Lib.hid C2
        have HC3 := Lib.hid C3
        have HST := Lib.hid hst
        clear C1 C2 C3 hr hst hc13
        go_enter Tryd.func38, Tryd.ntmps38
        go_wp2_with fail
        rw [HWA.out, HPA.out]
        go_region_held3 (fun W : World => W.cell? ⟨pa, 1, none⟩ = some (.string u) ∧ W.cell? ⟨pa, 3, none⟩ = some (.int .i64 k)) (first | exact ⟨d1, d3⟩ | exact ⟨c1, c3⟩ | exact ⟨b1, b3⟩ | exact ⟨a1, a3⟩)
          (first
            | (go_at_call 37; refine HC1.out.mono ?_; rintro e w5 ⟨rfl, HN5, HK5⟩; have hA5 := HK5.keep pa _ HA.out (notN_act _); obtain ⟨b1, b2, b3, b4⟩ := HCE.out w5 hA5; have hR5 := Lib.hid (HRd.out.keeps HK5 notN_r notN_s notN_str))
            | (go_at_call 56; refine (HC2.out w5 hR5.out (Nat.le_trans hBa HK5.below.size)).mono ?_; rintro e w6 ⟨rfl, HR6, HK6⟩; have hA6 := HK6.keep pa _ hA5 (notR_act _); obtain ⟨c1, c2, c3, c4⟩ := HCE.out w6 hA6; have hK6 : Keeps NRRow B w w6 := hKd.trans ((HK5.wide fun o h => .inl h).trans (HK6.wide fun o h => .inr h)))
            | (go_at_call 36; refine (HC3.out w6 hK6.below).mono ?_; rintro e w7 ⟨rfl, hb7⟩; have hA7 : w7.heap[pa]? = _ := (hb7.block pa (Array.getElem?_eq_some_iff.1 hA6).1).trans hA6; obtain ⟨d1, d2, d3, d4⟩ := HCE.out w7 hA7))
        have hN7 := (HN5.keeps HK6 notR_map notR_net).below hb7
        have hR7 := HR6.below hb7
        have hK7 := hK6.trans (Keeps.of hb7 (Nat.le_trans hBw hK6.below.size))
        obtain ⟨vL, vO, hR8⟩ := hR7
        have r2 : w7.cell? ⟨m, 2, none⟩ = some (.int .i64 n'.calls) := by rw [Lib.cell_of_heap hR8.blk]; rfl
        have HQ1 : Hid (∀ q, Calls Tryd.prog 51 #[.pointer (some ⟨b, 0, none⟩)] (w7.drewN q) fun e w' => e = .returned (.int .i64 n'.calls) ∧ w' = w7.drewN q) := fun q => netCalls_any B b (t + 1) n' (w7.drewN q) (hN7.below (below_drewN _ _ _))
        have hqq : ((n'.calls : Int) == (n'.calls : Int)) = true := beq_self_eq_true _
        have HN7 := Lib.hid hN7
        have HR8 := Lib.hid hR8
        clear hN7 hR8 hK6 HK5 HK6 HN5 HR6 hb7 hR5 hA5 hA6 hA7 b1 b2 b3 b4 c1 c2 c3 c4 d1 d2 d3 d4 HC1 HC2 HC3 a1 a2 a3 a4
        go_wp2_with fail
        go_quiet (first | exact Calls.quiet_of_same (HQ1.out _))
        go_wp2_with fail
        go_ret
        refine ⟨rfl, ?_, ?_, hK7.trans (Keeps.of (below_drewN _ _ _) (Nat.le_trans hBw hK7.below.size))⟩
        · rw [HST.out]; exact HN7.out.below (below_drewN _ _ _)
        · rw [HST.out]; exact ⟨vL, vO, HR8.out.below (below_drewN _ _ _)⟩
      | false =>
        obtain ⟨l, c, n', hr⟩ : ∃ l c n', getN n u = (l, c, n') := ⟨_, _, _, rfl⟩
        have hst : stepN n ⟨kd, u, s, k, on⟩ = n' := by unfold stepN; dsimp only; rw [if_neg (by rw [show (kd.toList == kPut) = false from hKP]; simp), if_neg (by rw [show (kd.toList == kHost) = false from hKH]; simp), if_neg (by rw [show (kd.toList == kCut) = false from hKC]; simp), hr]
        have hc13 : c ≤ 13 := by have := getN_le n u; rw [hr] at this; exact this
        have C1 := netGet_any B b t n u wa HNa.out (by omega) hu hBa hEw.out HG.out
        rw [hr] at C1
        have C2 : ∀ W, RNetIs W B m n → B ≤ W.heap.size → Calls Tryd.prog 57 #[.pointer (some ⟨m, 0, none⟩), .string u] W (RGetPost B m (l, c, n') W) := by
          intro W hW hB
          have := refGet_net B m n u W hW Hok.out ho (by omega) hu hB
          rw [hr] at this
          exact this
        unfold GetPost at C1
        unfold RGetPost at C2
        dsimp only at C1 C2
        have C3 : ∀ W, Below B w W → Calls Tryd.prog 36 #[errV E c, .int .i64 c] W fun e w' => e = .returned (.bool true) ∧ Below W.heap.size W w' := fun W hW => codedC (HF.out W hW).1 hc13 rfl rfl
        generalize errV E c = cv at C1 C3
        generalize (c : Int) = co at C2 C3
        have HC1 := Lib.hid C1
        have HC2 := Lib.hid C2
        have HC3 := Lib.hid C3
        have HST := Lib.hid hst
        clear C1 C2 C3 hr hst hc13
        go_enter Tryd.func38, Tryd.ntmps38
        go_wp2_with fail
        rw [HWA.out, HPA.out]
        refine HC1.out.mono ?_
        rintro e w5 ⟨x, rfl, HX, HN5, HK5⟩
        have hA5 := HK5.keep pa _ HA.out (notN_act _)
        obtain ⟨b1, _, _, _⟩ := HCE.out w5 hA5
        have hR5 := Lib.hid (HRa.out.keeps HK5 notN_r notN_s notN_str)
        clear a1 a2 a3 a4 HC1
        go_wp2_with fail
        refine (HC2.out w5 hR5.out (Nat.le_trans hBa HK5.below.size)).mono ?_
        rintro e w6 ⟨y, rfl, HY, HR6, HK6⟩
        have hK6 : Keeps NRRow B w w6 := hKa.trans ((HK5.wide fun o h => .inl h).trans (HK6.wide fun o h => .inr h))
        obtain rfl : x = y := bl_eq (by rw [HX.out, HY.out])
        have hxx : (x.toList == x.toList) = true := beq_self_eq_true _
        clear b1 HC2 hA5
        go_wp2_with fail
        refine (HC3.out w6 hK6.below).mono ?_
        rintro e w7 ⟨rfl, hb7⟩
        have hN7 := (HN5.keeps HK6 notR_map notR_net).below hb7
        have hR7 := HR6.below hb7
        have hK7 := hK6.trans (Keeps.of hb7 (Nat.le_trans hBw hK6.below.size))
        obtain ⟨vL, vO, hR8⟩ := hR7
        have r2 : w7.cell? ⟨m, 2, none⟩ = some (.int .i64 n'.calls) := by rw [Lib.cell_of_heap hR8.blk]; rfl
        have HQ1 : Hid (∀ q, Calls Tryd.prog 51 #[.pointer (some ⟨b, 0, none⟩)] (w7.drewN q) fun e w' => e = .returned (.int .i64 n'.calls) ∧ w' = w7.drewN q) := fun q => netCalls_any B b (t + 1) n' (w7.drewN q) (hN7.below (below_drewN _ _ _))
        have hqq : ((n'.calls : Int) == (n'.calls : Int)) = true := beq_self_eq_true _
        have HN7 := Lib.hid hN7
        have HR8 := Lib.hid hR8
        clear hN7 hR8 hK6 HK5 HK6 HN5 HR6 hb7 hR5 HC3
        go_wp2_with fail
        go_quiet (first | exact Calls.quiet_of_same (HQ1.out _))
        go_wp2_with fail
        go_ret
        refine ⟨rfl, ?_, ?_, hK7.trans (Keeps.of (below_drewN _ _ _) (Nat.le_trans hBw hK7.below.size))⟩
        · rw [HST.out]; exact HN7.out.below (below_drewN _ _ _)
        · rw [HST.out]; exact ⟨vL, vO, HR8.out.below (below_drewN _ _ _)⟩
end Go.Proofs.YtpafddeakanopaaDoor
