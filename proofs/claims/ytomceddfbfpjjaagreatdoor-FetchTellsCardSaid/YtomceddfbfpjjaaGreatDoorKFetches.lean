/- fetch.right, fetch.one; the reference's askFault: contracts. The text of a laid error: errors' Error, and the reference's ErrorText. fetch.Try: the contract. fetch.Fetch: the contract. The laws' own small words: longAsk, fetched. The reference's TryOf: the contract. Where a held tree lies, in the reference's held. The reference's FetchOf: the contract. chandlerylaw3.faulted. The law's own small word: chandlerylaw3.coded; an error's value by its number. -/
import Derived.Test.YtomceddfbfpjjaaGreatDoorKFetchPlains
import Derived.Test.YtomceddfbfpjjaaGreatDoorKNetEnds
import Derived.Test.YtomceddfbfpjjaaGreatDoorKMirrorUp
import Derived.Test.YtomceddfbfpjjaaGreatDoorKWantAll
import Derived.Test.YtomceddfbfpjjaaGreatDoorKRefWants
import Derived.Test.YtomceddfbfpjjaaGreatDoorKRefMirror
import Derived.Test.YtomceddfbfpjjaaGreatDoorKFiles
import Derived.Test.YtomceddfbfpjjaaGreatDoorKRefTreeUp
import Derived.BigQuiet
import Derived.Test.YtomceddfbfpjjaaGreatDoorKErrors
import Derived.Test.YtomceddfbfpjjaaGreatDoorKRowed
import Derived.Test.YtomceddfbfpjjaaGreatDoorKPathed
import Derived.Test.YtomceddfbfpjjaaGreatDoorKPlainly
import Derived.Test.YtomceddfbfpjjaaGreatDoorKTreeFew
import Derived.Test.YtomceddfbfpjjaaGreatDoorKRefLinkUp
import Derived.Laws.OwnMore
import Derived.Deep.RegionHeld3
import Derived.Test.YtomceddfbfpjjaaGreatDoorKRefHeldUp
import Derived.Test.YtomceddfbfpjjaaGreatDoorKHeldEnds
import Derived.Test.YtomceddfbfpjjaaGreatDoorKTold
namespace Go.Proofs.YtomceddfbfpjjaaGreatDoor
open Go Go.RowKit

/-- The environment of fetching. -/
def FtEnv (E : Nat → Addr) (w : World) : Prop := REnv E w ∧ LEnv E w
theorem FtEnv.ext {E : Nat → Addr} {w w' : World} (h : FtEnv E w) (hb : Below w.heap.size w w') : FtEnv E w' := ⟨h.1.ext hb, h.2.ext hb⟩
theorem FtEnv.env {E : Nat → Addr} {w : World} (h : FtEnv E w) : Env E w := h.1.1.1.1
theorem FtEnv.net {E : Nat → Addr} {w : World} (h : FtEnv E w) : NEnv E w := ⟨h.1.1.1.1, h.2⟩
/-- What is wanted, as fetching may be asked. -/
structure AskW (x : WantB) : Prop where
  name : x.name.size ≤ 30000
  url : x.url.size ≤ 120
theorem WBox.keep {K : Obj → Prop} {B : Nat} {w w' : World} {p : Nat} {x : WantB} (h : WBox w p x) (hk : Keeps K B w w') (h1 : ∀ cs, ¬ K (.cells cs 25 (0, 0))) : WBox w' p x := hk.keep p _ h (h1 _)
theorem kn_want (cs : Array Value) : ¬ NetRow (.cells cs 25 (0, 0)) := by
  rintro (⟨es, c, h⟩ | ⟨c, fz, h⟩)
  · cases h
  · injection h with _ h3 _; exact absurd h3 (by decide)

def AskPost (E : Nat → Addr) (l : List RuleL) (x : WantB) (w : World) (e : Ending) (w' : World) : Prop :=
  (∃ ev, e = .returned ev ∧ Hid (IsErr E w' ev (askE l x))) ∧ Below w.heap.size w w'
theorem errV_is {E : Nat → Addr} {w : World} {c : Nat} (h : c ≤ 13) : IsErr E w (errV E c) ⟨c, none⟩ := by
  cases c with
  | zero => exact .inl ⟨rfl, rfl⟩
  | succ c => exact .inr (.inl ⟨c, by omega, rfl, rfl⟩)
set_option maxHeartbeats 1000000 in
set_option maxRecDepth 100000 in
theorem fetchRight_any {E : Nat → Addr} (v : Value) (l : List RuleB) (x : WantB) (w : World) (hl : l.length ≤ 1000) (hs : ∀ r ∈ l, Small r) (hx : AskW x) (hv : RulesRow w v l) (hE : FtEnv E w) :
    Calls Tryz.prog 38 #[v, .agg #[.string x.name, .string x.url, .string x.kind, .int .i64 x.strip, .int .i64 x.sum]] w (AskPost E (l.map ruleOf) x w) := by
  obtain ⟨px, hpx⟩ : ∃ px, w.heap.size = px := ⟨_, rfl⟩
  obtain ⟨wx, hwx⟩ : ∃ wx, w.alloc (.cells #[.string x.name, .string x.url, .string x.kind, .int .i64 x.strip, .int .i64 x.sum] 25) = wx := ⟨_, rfl⟩
  have hbx : Below w.heap.size w wx := by rw [← hwx]; exact (Below.refl _ _).alloc (Nat.le_refl _) _
  have BX := Lib.hid (show WBox wx px x by rw [← hwx, ← hpx]; exact WBox.new w x)
  have HB := Lib.hid hbx
  have HE := Lib.hid (hE.ext hbx)
  have HWX := Lib.hid hwx
  have HPX := Lib.hid hpx
  have HX := Lib.hid hx
  have C := Lib.hid (mirrorCheck_any v l wx hl hs (hv.ext hbx) (hE.ext hbx).2)
  clear hpx hwx hbx hE hv hx
  go_enter Tryz.func38, Tryz.ntmps38
  go_upto_region 1 with fail
  rw [HWX.out, HPX.out]
  go_wp2_with fail
  refine C.out.mono ?_
  clear C
  intro e w1 hpost
  unfold CheckPost at hpost
  obtain ⟨⟨ev, rfl, HV⟩, hb1⟩ := hpost
  have B1 := Lib.hid (HB.out.trans (hb1.mono HB.out.size))
  by_cases h0 : (rulesEr (l.map ruleOf)).code = 0
  · obtain rfl : ev = .nilIface := HV.out.zero h0
    have HA := Lib.hid (askE_from (w := x) h0)
    obtain ⟨c0, c1, c2, c3, c4⟩ := (BX.out.ext hb1).cells
    have C := Lib.hid (wantCheck_any x w1 (by have := HX.out.name; omega) (by have := HX.out.url; omega) (HE.out.ext hb1).1.1.1)
    clear h0 HV
    go_wp2_with fail
    refine C.out.mono ?_
    clear C
    rintro e w2 ⟨rfl, hb2⟩
    go_wp2_with fail
    go_ret
    exact ⟨⟨_, rfl, by rw [HA.out]; exact errV_is (wantE_le x)⟩, B1.out.trans (hb2.mono B1.out.size)⟩
  · have HA := Lib.hid (askE_no (w := x) h0)
    obtain ⟨ty, y, rfl⟩ := HV.out.some_inv h0
    clear h0
    go_wp2_with fail
    go_ret
    exact ⟨⟨_, rfl, by rw [HA.out]; exact HV⟩, B1.out⟩

/-- What one way hands back, and leaves. -/
def OnePost (E : Nat → Addr) (B b t : Nat) (r : Nat × List FileB × NetB) (w : World) (e : Ending) (w' : World) : Prop :=
  ∃ v, e = .returned (.tuple #[v, errV E r.1]) ∧ Hid (FGot w' w.heap.size r.1 v r.2.1) ∧ NetIs w' B b r.2.2 (t + 1) ∧ KeepsU 4 b NetRow B w w'
set_option maxHeartbeats 2000000 in
set_option maxRecDepth 100000 in
theorem fetchOne_any {E : Nat → Addr} (B b t : Nat) (n : NetB) (u : ByteArray) (x : WantB) (w : World) (h : NetIs w B b n t) (ht : t < 1000000000) (hu : u.size ≤ 100000) (hx : AskW x) (hBw : B ≤ w.heap.size) (hEB : ∀ W, Below B w W → FtEnv E W) (hG : ∀ k, k < 13 → gE k < B) :
    Calls Tryz.prog 40 #[.pointer (some ⟨b, 0, none⟩), .string u, .agg #[.string x.name, .string x.url, .string x.kind, .int .i64 x.strip, .int .i64 x.sum]] w (OnePost E B b t (wayB n u x) w) := by
  obtain ⟨px, hpx⟩ : ∃ px, w.heap.size = px := ⟨_, rfl⟩
  obtain ⟨wx, hwx⟩ : ∃ wx, w.alloc (.cells #[.string x.name, .string x.url, .string x.kind, .int .i64 x.strip, .int .i64 x.sum] 25) = wx := ⟨_, rfl⟩
  have hbx : Below w.heap.size w wx := by rw [← hwx]; exact (Below.refl _ _).alloc (Nat.le_refl _) _
  have BX := Lib.hid (show WBox wx px x by rw [← hwx, ← hpx]; exact WBox.new w x)
  have KX : KeepsU 4 b NetRow B w wx := KeepsU.of hbx hBw
  have HKX := Lib.hid KX
  have HEB := Lib.hid hEB
  have HWX := Lib.hid hwx
  have HPX := Lib.hid hpx
  have HX := Lib.hid hx
  have HOK := Lib.hid h.1
  have hBx : B ≤ wx.heap.size := Nat.le_trans hBw hbx.size
  have C := netGet_any B b t n u wx (h.below hbx) ht hu hBx (hEB wx KX.below).net hG
  have hle := getN_le n u
  have hlen := getN_len (u := u) h.1
  have hw : wayB n u x = if (getN n u).2.1 ≠ 0 then ((getN n u).2.1, [], (getN n u).2.2) else ((rightW x ⟨(getN n u).1.toArray⟩).1, (rightW x ⟨(getN n u).1.toArray⟩).2, (getN n u).2.2) := rfl
  obtain ⟨r, hr⟩ : ∃ r, wayB n u x = r := ⟨_, rfl⟩
  rw [hr] at hw ⊢
  obtain ⟨g, hg⟩ : ∃ g, getN n u = g := ⟨_, rfl⟩
  rw [hg] at hw C hle hlen
  obtain ⟨s, c, n'⟩ := g
  unfold GetPost at C
  dsimp only at hw C hle hlen
  have HW := Lib.hid hw
  have HC := Lib.hid C
  clear C hpx hwx hbx hEB hx hr hg hw h KX hG
  cases c with
  | succ c =>
    have HR : Hid (r = (c + 1, [], n')) := by show _ = _; rw [HW.out, if_pos (by omega)]
    rw [show errV E (c + 1) = sentV E c from rfl] at HC
    clear HW hle hlen
    go_enter Tryz.func40, Tryz.ntmps40
    go_upto_region 1 with fail
    rw [HWX.out, HPX.out]
    go_wp2_with fail
    refine HC.out.mono ?_
    clear HC
    rintro e w1 ⟨z, rfl, HZ, HN, HK⟩
    go_wp2_with fail
    go_ret2
    rw [HR.out]
    exact ⟨_, rfl, FGot.bad (FArg.nil _) (Nat.succ_ne_zero _), HN, HKX.out.trans HK⟩
  | zero =>
    have HR : Hid (r = ((rightW x ⟨s.toArray⟩).1, (rightW x ⟨s.toArray⟩).2, n')) := by show _ = _; rw [HW.out, if_neg (by omega)]
    rw [show errV E 0 = .nilIface from rfl] at HC
    have hlen2 := hlen
    clear HW hle
    go_enter Tryz.func40, Tryz.ntmps40
    go_upto_region 1 with fail
    rw [HWX.out, HPX.out]
    go_wp2_with fail
    refine HC.out.mono ?_
    clear HC
    rintro e w1 ⟨z, rfl, HZ, HN, HK⟩
    have BX1 := BX.out.keep HK.toKeeps kn_want
    obtain ⟨c0, c1, c2, c3, c4⟩ := BX1.cells
    obtain rfl : z = ⟨s.toArray⟩ := bl_eq (by rw [HZ.out]; rfl)
    have HK1 := Lib.hid (HKX.out.trans HK)
    have C := Lib.hid (wantRight_any x ⟨s.toArray⟩ w1 HX.out.name (by have := HX.out.url; omega) (by rw [← bl_length]; show s.length ≤ _; omega) (HEB.out w1 HK1.out.below).1)
    have HN1 := Lib.hid HN
    clear HZ HN HK BX1 hlen hlen2
    go_wp2_with fail
    refine C.out.mono ?_
    clear C
    intro e w2 hpost
    unfold WOpenPost at hpost
    obtain ⟨⟨v, rfl, HV⟩, hb2⟩ := hpost
    go_wp2_with fail
    go_ret2
    rw [HR.out]
    exact ⟨v, rfl, HV.out.low HK1.out.below.size, HN1.out.below hb2, HK1.out.trans (KeepsU.of hb2 (Nat.le_trans hBw HK1.out.below.size))⟩

/-- What the reference's askFault hands back. -/
def RAskPost (l : List RuleL) (x : WantB) (w : World) (e : Ending) (w' : World) : Prop := e = .returned (.agg (erA (askE l x))) ∧ Below w.heap.size w w'
set_option maxHeartbeats 2000000 in
set_option maxRecDepth 100000 in
theorem refAsk_any (v : Value) (l : List RuleB) (x : WantB) (w : World) (hl : l.length ≤ 1000) (hs : ∀ r ∈ l, Small r) (hx : AskW x) (hv : RulesRow w v l) :
    Calls Tryz.prog 42 #[v, .agg #[.string x.name, .string x.url, .string x.kind, .int .i64 x.strip, .int .i64 x.sum]] w (RAskPost (l.map ruleOf) x w) := by
  obtain ⟨px, hpx⟩ : ∃ px, w.heap.size = px := ⟨_, rfl⟩
  obtain ⟨wx, hwx⟩ : ∃ wx, w.alloc (.cells #[.string x.name, .string x.url, .string x.kind, .int .i64 x.strip, .int .i64 x.sum] 25) = wx := ⟨_, rfl⟩
  have hbx : Below w.heap.size w wx := by rw [← hwx]; exact (Below.refl _ _).alloc (Nat.le_refl _) _
  have hBX : WBox wx px x := by rw [← hwx, ← hpx]; exact WBox.new w x
  have hxs : wx.heap.size = px + 1 := by rw [← hwx, ← hpx, World.size_alloc]
  obtain ⟨g, hg⟩ : ∃ g, px + 1 = g := ⟨_, rfl⟩
  obtain ⟨wg, hwg⟩ : ∃ wg, wx.alloc (.cells #[.int .i64 0, .int .i64 0] 50) = wg := ⟨_, rfl⟩
  have hal : Below wx.heap.size wx wg := by rw [← hwg]; exact (Below.refl _ _).alloc (Nat.le_refl _) _
  have FG := Lib.hid (show FaultAt wg g 0 0 by rw [← hwg, ← hg, ← hxs]; exact FaultAt.new wx 0 0)
  have hgw : w.heap.size ≤ g := by rw [← hg, ← hxs]; exact hbx.size
  have BG := Lib.hid (hbx.trans (hal.mono hbx.size))
  have BXG := Lib.hid (hBX.ext hal)
  have HWX := Lib.hid hwx
  have HPX := Lib.hid hpx
  have HWG := Lib.hid hwg
  have HG := Lib.hid hg
  have HX := Lib.hid hx
  have C := Lib.hid (refRulesFault_any v l wg hl hs (hv.ext BG.out))
  clear hpx hwx hbx hBX hg hwg hal hv hx hs hxs
  go_enter Tryz.func42, Tryz.ntmps42
  go_upto_region 1 with fail
  rw [HWX.out, HPX.out, HWG.out, HG.out]
  go_wp2_with fail
  refine C.out.mono ?_
  clear C
  intro e w1 hpost
  unfold RFPost at hpost
  obtain ⟨rfl, hb1⟩ := hpost
  have F1 := Lib.hid (FG.out.ext hb1)
  have B1 := Lib.hid (BG.out.trans (hb1.mono BG.out.size))
  have BX1 := Lib.hid (BXG.out.ext hb1)
  obtain ⟨c, hc⟩ : ∃ c, (rulesEr (l.map ruleOf)).code = c := ⟨_, rfl⟩
  obtain ⟨a, ha⟩ : ∃ a : Int, (rulesEr (l.map ruleOf)).at?.getD (-1) = a := ⟨_, rfl⟩
  have HC := Lib.hid hc
  have HA := Lib.hid ha
  rw [show erA (rulesEr (l.map ruleOf)) = #[.int .i64 c, .int .i64 a] by unfold erA; rw [hc, ha]]
  obtain ⟨q, hq⟩ : ∃ q, w1.heap.size = q := ⟨_, rfl⟩
  obtain ⟨w2, hw2⟩ : ∃ w2, w1.alloc (.cells #[.int .i64 c, .int .i64 a] 50) = w2 := ⟨_, rfl⟩
  have hal2 : Below w1.heap.size w1 w2 := by rw [← hw2]; exact (Below.refl _ _).alloc (Nat.le_refl _) _
  have FQ := Lib.hid (show FaultAt w2 q c a by rw [← hw2, ← hq]; exact FaultAt.new w1 _ _)
  have F2 := Lib.hid (F1.out.ext hal2)
  have B2 := Lib.hid (B1.out.trans (hal2.mono B1.out.size))
  have BX2 := Lib.hid (BX1.out.ext hal2)
  have HW2 := Lib.hid hw2
  have HQ := Lib.hid hq
  have hgq : g ≠ q := by have := F1.out.lt; omega
  have hqw : w.heap.size ≤ q := by rw [← hq]; exact B1.out.size
  clear hb1 hc ha hal2 hw2 hq FG BG F1 B1 BX1
  obtain ⟨x0, x1, x2, x3⟩ := FQ.out.cells
  go_upto_region 2 with fail
  rw [HW2.out, HQ.out]
  by_cases hz : c = 0
  · subst hz
    have HK := Lib.hid (askE_from (w := x) HC.out)
    obtain ⟨d0, d1, d2, d3, d4⟩ := BX2.out.cells
    have C := Lib.hid (refWantError_any x w2 (by have := HX.out.name; omega) (by have := HX.out.url; omega))
    obtain ⟨d, hd⟩ : ∃ d, wantE x = d := ⟨_, rfl⟩
    rw [hd] at C HK
    clear hd
    go_wp2_with fail
    refine C.out.mono ?_
    clear C
    rintro e w3 ⟨rfl, hb3⟩
    go_wp2_with fail
    refine (refBare_any _ w3).mono ?_
    rintro e w4 ⟨rfl, hb4⟩
    have hb34 := hb3.trans (hb4.mono hb3.size)
    have F4 := Lib.hid (F2.out.ext hb34)
    have FQ4 := Lib.hid (FQ.out.ext hb34)
    have B4 := Lib.hid (B2.out.trans (hb34.mono B2.out.size))
    obtain ⟨v0, v1, v2, v3⟩ := FQ4.out.cells
    have FQ5 := FQ4.out.store (d : Int) (-1)
    have FG5 := F4.out.other hgq (.int .i64 (d : Int)) (.int .i64 (-1))
    have B5 := B4.out.trans (fault_end FQ4.out d (-1) w.heap.size hqw).2.2
    obtain ⟨w5, hw5⟩ : ∃ w5, (w4.setCell ⟨q, 0, none⟩ (.int .i64 (d : Int))).setCell ⟨q, 1, none⟩ (.int .i64 (-1)) = w5 := ⟨_, rfl⟩
    rw [hw5] at FQ5 FG5 B5
    have HW5 := Lib.hid hw5
    obtain ⟨t0, t1, t2, t3⟩ := FQ5.cells
    obtain ⟨s0, s1, s2, s3⟩ := FG5.cells
    have HB5 := Lib.hid B5
    have HFG5 := Lib.hid FG5
    clear hb3 hb4 hb34 hw5 d0 d1 d2 d3 d4 x0 x1 x2 x3 FQ5 FG5 B5
    go_upto_region 4 with fail
    rw [HW5.out]
    clear v0 v1 v2 v3
    go_wp2_with fail
    obtain ⟨r0, r1, r2⟩ := fault_end HFG5.out (d : Int) (-1) w.heap.size hgw
    refine bodyPost_ret (v := .agg #[.int .i64 (d : Int), .int .i64 (-1)]) ?_ rfl ⟨by rw [HK.out]; rfl, HB5.out.trans r2⟩
    simp [results, Tryz.results42, go_sem, r0, r1]
  · have HK := Lib.hid (askE_no (w := x) (l := l.map ruleOf) (by rw [HC.out]; exact hz))
    have hne : ((c : Int) == 0) = false := by rw [beq_eq_false_iff_ne]; omega
    obtain ⟨y0, y1, y2, y3⟩ := F2.out.cells
    clear hz
    go_wp2_with fail
    obtain ⟨r0, r1, r2⟩ := fault_end F2.out c a w.heap.size hgw
    refine bodyPost_ret (v := .agg #[.int .i64 c, .int .i64 a]) ?_ rfl ⟨by rw [HK.out]; unfold erA; rw [HC.out, HA.out], B2.out.trans r2⟩
    simp [results, Tryz.results42, go_sem, r0, r1]
end Go.Proofs.YtomceddfbfpjjaaGreatDoor

namespace Go.Proofs.YtomceddfbfpjjaaGreatDoor
open Go Go.RowKit

theorem Tryz.methodError (v : Value) (w : World) : (Go.method 438 300 v "Error").run Tryz.prog w = .ok (281, v) w := by kernel_rfl
theorem errTx_lenB : ((List.range 14).all fun c => decide ((errTx c).length ≤ 20)) = true := by decide
theorem errTx_len (c : Nat) (h : c ≤ 13) : (errTx c).length ≤ 20 := of_decide_eq_true (List.all_eq_true.1 errTx_lenB c (List.mem_range.2 (by omega)))
theorem errNames_len (c : Nat) (h : c < 13) : (errNames.getD c []).length ≤ 5 := of_decide_eq_true (List.all_eq_true.1 (show ((List.range 13).all fun c => decide ((errNames.getD c []).length ≤ 5)) = true by decide) c (List.mem_range.2 h))
theorem spot_of {w : World} {a : Addr} {v : Value} (h : w.cell? a = some v) : a = ⟨a.block, a.off, none⟩ := by
  have := World.cell?_spot h
  obtain ⟨b, o, s⟩ := a
  subst this
  rfl

set_option maxRecDepth 100000 in
theorem errError_any {E : Nat → Addr} {w : World} (hE : Env E w) (k : Nat) (hk : k < 13) :
    Calls Tryz.prog 281 #[.pointer (some (E k))] w fun e w' => (∃ s : ByteArray, e = .returned (.string s) ∧ Hid (bl s = errTx (k + 1)) ∧ s.size ≤ 20) ∧ w = w' := by
  obtain ⟨s, h1, h2⟩ := hE.txt k hk
  have hsz : s.size ≤ 20 := by
    rw [← bl_length, show bl s = errTx (k + 1) from h2]
    exact errTx_len (k + 1) (by omega)
  have HT : Hid (bl s = errTx (k + 1)) := h2
  obtain ⟨a, ha⟩ : ∃ a, E k = a := ⟨_, rfl⟩
  rw [ha] at h1 ⊢
  have hs := spot_of h1
  obtain ⟨b, o, sp⟩ := a
  obtain rfl : sp = none := by injection hs
  clear h2 ha hs hE
  have h3 : w.cell? ⟨b, o + 0, none⟩ = some (.string s) := h1
  go_enter Tryz.func281, Tryz.ntmps281
  go_wp2_with fail
  go_ret
  exact ⟨⟨s, rfl, HT, hsz⟩, rfl⟩
def errNamesB : List ByteArray := errNames.map fun l => ⟨l.toArray⟩
set_option maxRecDepth 100000 in
set_option maxHeartbeats 1000000 in
theorem refErrorText_any (c : Nat) (h1 : 1 ≤ c) (h2 : c ≤ 13) (w : World) :
    Calls Tryz.prog 45 #[.int .i64 c] w fun e w' => (∃ s : ByteArray, e = .returned (.string s) ∧ Hid (bl s = errTx c) ∧ s.size ≤ 20) ∧ Below w.heap.size w w' := by
  have hb : Below w.heap.size w (w.alloc (.cells #[.string ⟨#[116, 101, 120, 116]⟩, .string ⟨#[98, 111, 117, 110, 100]⟩, .string ⟨#[115, 104, 97, 112, 101]⟩, .string ⟨#[107, 105, 110, 100]⟩, .string ⟨#[110, 97, 109, 101]⟩, .string ⟨#[110, 111, 110, 101]⟩, .string ⟨#[101, 120, 105, 115, 116]⟩, .string ⟨#[102, 117, 108, 108]⟩, .string ⟨#[111, 114, 100, 101, 114]⟩, .string ⟨#[111, 117, 116]⟩, .string ⟨#[99, 108, 97, 115, 104]⟩, .string ⟨#[115, 117, 109]⟩, .string ⟨#[111, 102, 102]⟩] 9)) := (Below.refl _ w).alloc (Nat.le_refl _) _
  obtain ⟨wa, hwa⟩ : ∃ wa, w.alloc (.cells #[.string ⟨#[116, 101, 120, 116]⟩, .string ⟨#[98, 111, 117, 110, 100]⟩, .string ⟨#[115, 104, 97, 112, 101]⟩, .string ⟨#[107, 105, 110, 100]⟩, .string ⟨#[110, 97, 109, 101]⟩, .string ⟨#[110, 111, 110, 101]⟩, .string ⟨#[101, 120, 105, 115, 116]⟩, .string ⟨#[102, 117, 108, 108]⟩, .string ⟨#[111, 114, 100, 101, 114]⟩, .string ⟨#[111, 117, 116]⟩, .string ⟨#[99, 108, 97, 115, 104]⟩, .string ⟨#[115, 117, 109]⟩, .string ⟨#[111, 102, 102]⟩] 9) = wa := ⟨_, rfl⟩
  obtain ⟨p, hp⟩ : ∃ p, w.heap.size = p := ⟨_, rfl⟩
  have hA : wa.heap[p]? = some (.cells (errNamesB.map Value.string).toArray 9 (0, 0)) := by rw [← hwa, ← hp]; exact heap_alloc_new _ _
  rw [hwa] at hb
  have hc : ∃ s : ByteArray, wa.cell? ⟨p, c - 1, none⟩ = some (.string s) ∧ bl s = errNames.getD (c - 1) [] := by
    rw [Lib.cell_of_heap hA]
    have : ∀ j, j < 13 → ∃ s : ByteArray, (errNamesB.map Value.string).toArray[j]? = some (.string s) ∧ bl s = errNames.getD j [] := by
      intro j hj
      have hl : j < errNamesB.length := hj
      refine ⟨errNamesB[j], by simp [hl], ?_⟩
      have hl2 : j < errNames.length := hj
      simp only [errNamesB, List.getElem_map]
      rw [List.getD_eq_getElem?_getD, List.getElem?_eq_getElem hl2]
      rfl
    exact this (c - 1) (by omega)
  obtain ⟨s, h3, h4⟩ := hc
  have HS := Lib.hid h4
  have hsz : s.size ≤ 5 := by rw [← bl_length, h4]; exact errNames_len (c - 1) (by omega)
  have HB := Lib.hid hb
  have HWA := Lib.hid hwa
  have HP := Lib.hid hp
  have e1 : ((c : Int) - 1).toNat = c - 1 := by omega
  have e2 : (0 : Int) ≤ (c : Int) - 1 := by omega
  have e3 : (c : Int) - 1 < 13 := by omega
  have e4 : (c : Int) - 1 = ((c - 1 : Nat) : Int) := by omega
  clear hA hb h4 HWA HP e4
  subst hwa
  subst hp
  go_enter Tryz.func45, Tryz.ntmps45
  go_wp2_with fail
  go_ret
  refine ⟨⟨_, rfl, ?_, ?_⟩, HB.out⟩
  · show bl _ = _
    rw [bl_append, HS.out]
    rfl
  · rw [ByteArray.size_append]
    show 11 + s.size ≤ _
    omega
end Go.Proofs.YtomceddfbfpjjaaGreatDoor

namespace Go.Proofs.YtomceddfbfpjjaaGreatDoor
open Go Go.RowKit

/-- Lines of one's own. -/
def TOwn (w : World) (base : Nat) (v : Value) (zs : List ByteArray) : Prop := w.ownsRow base 9 1 v zs.length (zs.map Value.string)
def LRow (o : Obj) : Prop := ∃ cs fz, o = .cells cs 9 fz
theorem kl_map (es : Array MapEntry) (c : Nat) : ¬ LRow (.map es c) := fun ⟨_, _, h⟩ => by cases h
theorem kl_net (cs : Array Value) (fz : Nat × Nat) : ¬ LRow (.cells cs 76 fz) := fun ⟨_, _, h⟩ => by injection h with _ h3 _; exact absurd h3 (by decide)
theorem kl_want (cs : Array Value) : ¬ LRow (.cells cs 25 (0, 0)) := fun ⟨_, _, h⟩ => by injection h with _ h3 _; exact absurd h3 (by decide)
theorem kl_file (cs : Array Value) : ¬ LRow (.cells cs 68 (0, 0)) := fun ⟨_, _, h⟩ => by injection h with _ h3 _; exact absurd h3 (by decide)
theorem kn_str (cs : Array Value) : ¬ NetRow (.cells cs 9 (0, 0)) := notN_str cs
theorem TOwn.nil (w : World) (base : Nat) : TOwn w base (.slice none 0 0) [] := World.ownsRow_nil _ _ _ _
theorem TOwn.ext {w w' : World} {base : Nat} {v : Value} {zs : List ByteArray} (h : TOwn w base v zs) (hb : Below w.heap.size w w') : TOwn w' base v zs := owns_below h hb
theorem TOwn.low {w : World} {base B : Nat} {v : Value} {zs : List ByteArray} (h : TOwn w base v zs) (hB : B ≤ base) : TOwn w B v zs := ownsRow_low h hB
theorem TOwn.keeps {K : Obj → Prop} {w w' : World} {base B : Nat} {v : Value} {zs : List ByteArray} (h : TOwn w base v zs) (hk : Keeps K B w w') (h1 : ∀ cs, ¬ K (.cells cs 9 (0, 0))) : TOwn w' base v zs := hk.owns h h1
theorem TOwn.row {w : World} {base : Nat} {v : Value} {zs : List ByteArray} (h : TOwn w base v zs) : Row encStr 1 w v zs := row_of_own h
theorem TOwn.shape {w : World} {base : Nat} {v : Value} {zs : List ByteArray} (h : TOwn w base v zs) : ∃ ao cap, v = .slice ao zs.length cap := by
  rcases h.2 with ⟨rfl, h0⟩ | ⟨g, cap, cur, rfl, _⟩
  · exact ⟨none, 0, by rw [h0]⟩
  · exact ⟨_, _, rfl⟩
theorem KeepsU.fresh {n b : Nat} {K : Obj → Prop} {B : Nat} {w a c : World} (h : KeepsU n b K B w a) (hb : Below w.heap.size a c) (hB : B ≤ w.heap.size) : KeepsU n b K B w c :=
  ⟨h.toKeeps.fresh hb hB, fun k hk hs => (hb.block k hk).trans (h.span k hk hs)⟩
/-- Texts at a place. -/
def WaysAt (w : World) (c off : Nat) (xs : List ByteArray) : Prop := ∀ i, (hi : i < xs.length) → w.cell? ⟨c, off + i, none⟩ = some (.string xs[i])

/-- What Try hands back, and leaves. -/
def TryPost (E : Nat → Addr) (B b t : Nat) (r : Er × List FileB × List (List UInt8) × NetB) (w : World) (e : Ending) (w' : World) : Prop :=
  ∃ fv lv ev zs, e = .returned (.tuple #[fv, lv, ev]) ∧ Hid (IsErr E w' ev r.1) ∧ Hid (FOwn w' w.heap.size fv r.2.1) ∧ Hid (TOwn w' w.heap.size lv zs) ∧ Hid (zs.map bl = r.2.2.1 ∧ zs.length ≤ 20) ∧ Hid (NetIs w' B b r.2.2.2 (t + 20)) ∧ Hid (KeepsU 4 b NetRow B w w')
theorem app_bl (u s : ByteArray) (l : List UInt8) : bl ((u ++ ({ data := l.toArray } : ByteArray)) ++ s) = bl u ++ (l ++ bl s) := by
  rw [bl_append, bl_append, List.append_assoc]; rfl

set_option maxRecDepth 100000 in
theorem fetchTry_none {E : Nat → Addr} (v : Value) (x : WantB) (w : World) (hE : Env E w) :
    Calls Tryz.prog 12 #[.pointer none, v, .agg #[.string x.name, .string x.url, .string x.kind, .int .i64 x.strip, .int .i64 x.sum]] w fun e w' => e = .returned (.tuple #[.slice none 0 0, .slice none 0 0, sentV E 2]) ∧ Below w.heap.size w w' := by
  have hbx : Below w.heap.size w (w.alloc (.cells #[.string x.name, .string x.url, .string x.kind, .int .i64 x.strip, .int .i64 x.sum] 25)) := (Below.refl _ _).alloc (Nat.le_refl _) _
  obtain ⟨wx, hwx⟩ : ∃ wx, w.alloc (.cells #[.string x.name, .string x.url, .string x.kind, .int .i64 x.strip, .int .i64 x.sum] 25) = wx := ⟨_, rfl⟩
  rw [hwx] at hbx
  have HWX := Lib.hid hwx
  have HB := Lib.hid hbx
  have e1 : wx.cell? ⟨0, 0, none⟩ = some (sentV E 2) := (hE.ext hbx).err 2 (by decide)
  clear hwx hbx hE
  go_enter Tryz.func12, Tryz.ntmps12
  go_upto_region 1 with fail
  rw [HWX.out]
  go_wp2_with fail
  go_quiet (fail)
  go_wp2_with fail
  go_ret3
  exact ⟨rfl, HB.out.trans ((below_drewN _ _ _).mono HB.out.size)⟩

set_option maxHeartbeats 4000000 in
set_option maxRecDepth 100000 in
theorem fetchTry_any {E : Nat → Addr} (B b t : Nat) (n : NetB) (v : Value) (l : List RuleB) (x : WantB) (w : World) (h : NetIs w B b n t) (ht : t + 20 < 1000000000) (hl : l.length ≤ 1000) (hs : ∀ r ∈ l, Small r) (hx : AskW x) (hv : RulesRow w v l) (hBw : B ≤ w.heap.size) (hEB : ∀ W, Below B w W → FtEnv E W) (hG : ∀ k, k < 13 → gE k < B) :
    Calls Tryz.prog 12 #[.pointer (some ⟨b, 0, none⟩), v, .agg #[.string x.name, .string x.url, .string x.kind, .int .i64 x.strip, .int .i64 x.sum]] w (TryPost E B b t (tryF n (l.map ruleOf) x) w) := by
  obtain ⟨i0, hi0, hz0, hz1, hz2⟩ := info_parts Tryz.infoW
  obtain ⟨px, hpx⟩ : ∃ px, w.heap.size = px := ⟨_, rfl⟩
  obtain ⟨wx, hwx⟩ : ∃ wx, w.alloc (.cells #[.string x.name, .string x.url, .string x.kind, .int .i64 x.strip, .int .i64 x.sum] 25) = wx := ⟨_, rfl⟩
  have hbx : Below w.heap.size w wx := by rw [← hwx]; exact (Below.refl _ _).alloc (Nat.le_refl _) _
  have BX := Lib.hid (show WBox wx px x by rw [← hwx, ← hpx]; exact WBox.new w x)
  have HB := Lib.hid hbx
  have HEB := Lib.hid hEB
  have HWX := Lib.hid hwx
  have HPX := Lib.hid hpx
  have HX := Lib.hid hx
  have HG := Lib.hid hG
  have HS := Lib.hid hs
  have HV0 := Lib.hid (hv.ext hbx)
  have HN0 := Lib.hid (h.below hbx)
  have KX : KeepsU 4 b NetRow B w wx := KeepsU.of hbx hBw
  have C := Lib.hid (fetchRight_any v l x wx hl hs hx (hv.ext hbx) (hEB wx KX.below))
  obtain ⟨c0, c1, c2, c3, c4⟩ := BX.out.cells
  have KX0 := Lib.hid KX
  clear hpx hwx hbx hEB hx hv h hG hs KX
  go_enter Tryz.func12, Tryz.ntmps12
  go_upto_region 1 with fail
  rw [HWX.out, HPX.out]
  go_wp2_with fail
  refine C.out.mono ?_
  clear C c0 c1 c2 c3 c4
  intro e w1 hpost
  unfold AskPost at hpost
  obtain ⟨⟨ev, rfl, HV⟩, hb1⟩ := hpost
  have B1 := Lib.hid (HB.out.trans (hb1.mono HB.out.size))
  have K1 := Lib.hid (KX0.out.trans (KeepsU.of hb1 (Nat.le_trans hBw HB.out.size)))
  by_cases h0 : (askE (l.map ruleOf) x).code = 0
  rotate_left
  · have HA := Lib.hid (tryF_ask (n := n) h0)
    obtain ⟨ty, y, rfl⟩ := HV.out.some_inv h0
    have HN1 := Lib.hid ((HN0.out.below hb1).later (Nat.le_add_right t 20))
    clear h0
    go_wp2_with fail
    go_ret3
    rw [HA.out]
    exact ⟨_, _, _, [], rfl, HV, FOwn.nil _ _, TOwn.nil _ _, ⟨rfl, Nat.zero_le _⟩, HN1, K1⟩
  obtain rfl : ev = .nilIface := HV.out.zero h0
  have HA := Lib.hid (tryF_from (n := n) h0)
  have hok := askE_want h0
  have hr0 := (askE_zero h0).1
  have hwe : waysEr (l.map ruleOf) (bl x.url) = ⟨0, none⟩ := by unfold waysEr; rw [if_pos hr0, hok.url]
  have HSH := Lib.hid (waysOut_short (l := l.map ruleOf) hok.url)
  have HNE := Lib.hid (waysOut_ne (l.map ruleOf) (bl x.url))
  have BX1 := Lib.hid (BX.out.ext hb1)
  have HN1 := Lib.hid (HN0.out.below hb1)
  have C := ways_any v l x.url w1 hl HS.out HX.out.url (HV0.out.ext hb1) (HEB.out w1 K1.out.below).2
  unfold WaysPost at C
  rw [hwe] at C
  have HC := Lib.hid C
  obtain ⟨c0, c1, c2, c3, c4⟩ := BX1.out.cells
  clear C hb1 h0 hok hr0 hwe HV HN0 HV0 BX
  go_wp2_with fail
  refine HC.out.mono ?_
  clear HC c0 c1 c2 c3 c4
  rintro e w2 ⟨⟨ov, ev, xs, rfl, HV, HR, HM, hxl⟩, hb2⟩
  obtain rfl : ev = .nilIface := HV.out.zero rfl
  have HMX : Hid (xs.map bl = waysOut (l.map ruleOf) (bl x.url)) := HM.out.trans (if_pos trivial)
  have B2 := Lib.hid (B1.out.trans (hb2.mono B1.out.size))
  have K2 := Lib.hid (K1.out.fresh (hb2.mono B1.out.size) hBw)
  have BX2 := Lib.hid (BX1.out.ext hb2)
  have HN2 := Lib.hid (HN1.out.below hb2)
  have hxne : xs ≠ [] := fun e0 => HNE.out (by rw [← HMX.out, e0]; rfl)
  rcases HR.out.one with ⟨_, e0⟩ | ⟨c, off, cap, rfl, h1, h2, h3, h4⟩
  · exact absurd e0 hxne
  have HWA : Hid (WaysAt w2 c off xs) := h4
  obtain ⟨D, hD⟩ : ∃ D, w2.heap.size = D := ⟨_, rfl⟩
  rw [hD] at h3
  have hwD : w.heap.size ≤ D := by rw [← hD]; exact B2.out.size
  have HU : Hid (∀ i, (hi : i < xs.length) → xs[i].size ≤ 200) := fun i hi => by
    rw [← bl_length]
    exact HSH.out _ (by rw [← HMX.out]; exact List.mem_map.2 ⟨_, List.getElem_mem hi, rfl⟩)
  have hD2 : D ≤ w2.heap.size := Nat.le_of_eq hD.symm
  obtain ⟨m, hm⟩ : ∃ m, xs.length = m := ⟨_, rfl⟩
  have HMM := Lib.hid hm
  have HAX : Hid (tryF n (l.map ruleOf) x = (⟨(tryGo x n (xs.map bl) [] 0).1, none⟩, (tryGo x n (xs.map bl) [] 0).2)) := by show _ = _; rw [HMX.out]; exact HA.out
  rw [hm] at h1 hxl ⊢
  clear hb2 HV HR HM hxne HMX HNE HSH h4 hD hm HA B1 K1 BX1 HN1
  go_wp2_with fail
  go_loopg [11, 12, 34] m (fun g1 ev lv vi wr => ∃ (k last : Nat) (nk : NetB) (zs : List ByteArray), vi = .int .i64 k ∧ k ≤ m ∧ m - k ≤ g1 ∧ zs.length = k ∧ last ≤ 13 ∧ ev = errV E last ∧ D ≤ wr.heap.size ∧ Hid (tryGo x n (xs.map bl) [] 0 = tryGo x nk ((xs.map bl).drop k) (zs.map bl) last) ∧ Hid (NetIs wr B b nk (t + k)) ∧ Hid (TOwn wr D lv zs) ∧ Hid (WaysAt wr c off xs) ∧ Hid (WBox wr px x) ∧ Hid (KeepsU 4 b NetRow B w wr))
  case atStart => exact ⟨0, 0, n, [], rfl, Nat.zero_le _, by omega, rfl, Nat.zero_le _, rfl, hD2, rfl, HN2, TOwn.nil _ _, HWA, BX2, K2⟩
  case round =>
    clear HN2 HWA BX2 K2 hD2
    obtain ⟨k, last, nk, zs, rfl, hk, hg, hzl, hla, rfl, hDr, HT, HN, HO, HWA, BX, K⟩ := hrel
    obtain ⟨lo, lc, hlv⟩ := HO.out.shape
    rw [hzl] at hlv
    subst hlv
    by_cases hlt : k < m
    · have hkx : k < xs.length := by rw [HMM.out]; exact hlt
      have q0 := HWA.out k hkx
      have HDR := Lib.hid (drop_bl xs k hkx)
      have hus := HU.out k hkx
      obtain ⟨u, hu⟩ : ∃ u, xs[k] = u := ⟨_, rfl⟩
      rw [hu] at q0 HDR hus
      obtain ⟨c0, c1, c2, c3, c4⟩ := BX.out.cells
      have hBr : B ≤ wr.heap.size := Nat.le_trans hBw (Nat.le_trans hwD hDr)
      have C := fetchOne_any B b (t + k) nk u x wr HN.out (by omega) (by omega) HX.out hBr (fun W hW => HEB.out W (K.out.below.trans hW)) HG.out
      have HTO := Lib.hid (fun he => (tryGo_ok (w := x) (n := nk) (u := bl u) (us := (xs.map bl).drop (k + 1)) (lines := zs.map bl) (last := last) he))
      have HTN := Lib.hid (fun he => (tryGo_no (w := x) (n := nk) (u := bl u) (us := (xs.map bl).drop (k + 1)) (lines := zs.map bl) (last := last) he))
      have HT2 : Hid (tryGo x n (xs.map bl) [] 0 = tryGo x nk (bl u :: (xs.map bl).drop (k + 1)) (zs.map bl) last) := by show _ = _; rw [HT.out, HDR.out]
      have hle := wayOne_le nk (bl u) x (fun s => rightW_le x s)
      rw [wayOne_bl] at HTO HTN hle
      obtain ⟨r, hr⟩ : ∃ r, wayB nk u x = r := ⟨_, rfl⟩
      rw [hr] at C HTO HTN hle
      obtain ⟨rc, rf, rn⟩ := r
      unfold OnePost at C
      dsimp only at C HTO HTN hle
      have HC := Lib.hid C
      clear C hu hr HDR HT
      cases rc with
      | zero =>
        have HF := Lib.hid (HT2.out.trans (HTO.out rfl))
        rw [show errV E 0 = .nilIface from rfl] at HC
        clear HTO HTN HT2 hle
        go_wp2_with fail
        refine HC.out.mono ?_
        clear HC
        rintro e w5 ⟨v5, rfl, HG5, HN5, HK5⟩
        have HN5h := Lib.hid HN5
        have HFO := Lib.hid (FOwn.low (HG5.out.2.2 rfl) (Nat.le_trans hwD hDr))
        have hD5 : D ≤ w5.heap.size := Nat.le_trans hDr HK5.below.size
        have K5 := Lib.hid (K.out.trans HK5)
        have hO5 : w5.ownsRow D 9 1 _ zs.length (zs.map Value.string) := HO.out.keeps HK5.toKeeps kn_str
        rw [hzl] at hO5
        have HO5 := Lib.hid hO5
        clear hO5
        clear HN5 HK5 q0 c0 c1 c2 c3 c4 HG5
        go_wp2_with (at_builtin; refine wpList_append_own _ rfl _ _ 35 rfl D 9 i0 (.string ⟨#[]⟩) 1 16 Tryz.underlying35 hi0 hz0 hz1 hz2 rfl (by decide) _ _ _ rfl (World.ownsRow.alloc HO5.out _) ⟨w5.heap.size, 0, none⟩ 1 1 [.string (u ++ ⟨#[32, 111, 107]⟩)] rfl rfl ?c1 ?c2 ?c3 ?c4 ?c5 ?_)
        case c1 =>
          intro j u hj
          match j, hj with
          | 0, hj => simp at hj; subst hj; simp [Addr.add]
        case c2 => intro u hu; simp at hu; subst hu; rfl
        case c3 => rw [maxLen_eq]; omega
        case c4 => omega
        case c5 => simp; omega
        intro v6 w6 hown6 hgrow6 _
        have hal : Below w5.heap.size w5 (w5.alloc (.cells #[.string (u ++ ⟨#[32, 111, 107]⟩)] 9)) := (Below.refl _ _).alloc (Nat.le_refl _) _
        have hK6 : Keeps LRow D w5 w6 := (Keeps.of hal hD5).trans (keeps_grown (World.ownsRow.alloc HO5.out _) hgrow6 (Nat.le_trans hD5 hal.size) (fun cs => ⟨_, _, rfl⟩))
        have HN6 := Lib.hid ((HN5h.out.keeps hK6 kl_map kl_net).later (show t + k + 1 ≤ t + 20 by omega))
        have HO6 : Hid (TOwn w6 w.heap.size v6 (zs ++ [u ++ ⟨#[32, 111, 107]⟩])) := TOwn.low (base := D) (by show w6.ownsRow _ _ _ _ _ _; rw [List.length_append, hzl, List.map_append]; exact hown6) hwD
        have HF6 := Lib.hid (hK6.owns HFO.out kl_file)
        have K6 := Lib.hid (K5.out.fresh (hK6.below.mono hwD) hBw)
        clear hown6 hgrow6 hK6 hal
        go_wp2_with fail
        go_ret3
        rw [HAX.out, HF.out]
        exact ⟨_, _, _, _, rfl, .inl ⟨rfl, rfl⟩, HF6, HO6, ⟨by rw [List.map_append]; show _ ++ [bl _] = _; rw [bl_append]; rfl, by rw [List.length_append]; simp; omega⟩, HN6, K6⟩
      | succ rc =>
        have HF := Lib.hid (HT2.out.trans (HTN.out (Nat.succ_ne_zero _)))
        rw [show errV E (rc + 1) = sentV E rc from rfl] at HC
        clear HTO HTN HT2
        go_wp2_with fail
        refine HC.out.mono ?_
        clear HC
        rintro e w5 ⟨v5, rfl, HG5, HN5, HK5⟩
        have hWA5 : WaysAt w5 c off xs := fun i hi => cell_net HN.out HK5 (HWA.out i hi)
        have HWA5 := Lib.hid hWA5
        have BX5 := Lib.hid (BX.out.keep HK5.toKeeps kn_want)
        have HN5h := Lib.hid HN5
        have hD5 : D ≤ w5.heap.size := Nat.le_trans hDr HK5.below.size
        have K5 := Lib.hid (K.out.trans HK5)
        have hO5 : w5.ownsRow D 9 1 _ zs.length (zs.map Value.string) := HO.out.keeps HK5.toKeeps kn_str
        rw [hzl] at hO5
        have HO5 := Lib.hid hO5
        clear hO5
        have HE5 := Lib.hid (HEB.out w5 K5.out.below).env
        clear HN5 HK5 q0 c0 c1 c2 c3 c4 HG5 hWA5 HWA BX HN HO
        go_wp2_with fail
        refine (treeBare_any ⟨rc + 1, none⟩ (sentV E rc) w5 (IsErr.base E w5 rc (by omega))).mono ?_
        rintro e w6 ⟨⟨uv, rfl, HU2⟩, rfl⟩
        obtain rfl := HU2.out.none_inv
        rw [show errV E (rc + 1) = sentV E rc from rfl]
        have hme := Tryz.methodError
        go_wp2_with fail
        refine (errError_any HE5.out rc (by omega)).mono ?_
        rintro e w6 ⟨⟨s, rfl, HSX, hsz⟩, rfl⟩
        clear hme
        go_wp2_with (at_builtin; refine wpList_append_own _ rfl _ _ 35 rfl D 9 i0 (.string ⟨#[]⟩) 1 16 Tryz.underlying35 hi0 hz0 hz1 hz2 rfl (by decide) _ _ _ rfl (World.ownsRow.alloc HO5.out _) ⟨w5.heap.size, 0, none⟩ 1 1 [.string ((u ++ ⟨#[32]⟩) ++ s)] rfl rfl ?d1 ?d2 ?d3 ?d4 ?d5 ?_)
        case d1 =>
          intro j u hj
          match j, hj with
          | 0, hj => simp at hj; subst hj; simp [Addr.add]
        case d2 => intro u hu; simp at hu; subst hu; rfl
        case d3 => rw [maxLen_eq]; omega
        case d4 => omega
        case d5 => simp; omega
        intro v6 w6 hown6 hgrow6 _
        have hal : Below w5.heap.size w5 (w5.alloc (.cells #[.string ((u ++ ⟨#[32]⟩) ++ s)] 9)) := (Below.refl _ _).alloc (Nat.le_refl _) _
        have hK6 : Keeps LRow D w5 w6 := (Keeps.of hal hD5).trans (keeps_grown (World.ownsRow.alloc HO5.out _) hgrow6 (Nat.le_trans hD5 hal.size) (fun cs => ⟨_, _, rfl⟩))
        have HN6 := Lib.hid (HN5h.out.keeps hK6 kl_map kl_net)
        have HO6 : Hid (TOwn w6 D v6 (zs ++ [(u ++ ⟨#[32]⟩) ++ s])) := by show w6.ownsRow _ _ _ _ _ _; rw [List.length_append, hzl, List.map_append]; exact hown6
        have K6 := Lib.hid (K5.out.fresh (hK6.below.mono hwD) hBw)
        have BX6 := Lib.hid (BX5.out.keep hK6 kl_want)
        have HWA6 : Hid (WaysAt w6 c off xs) := fun i hi => (hK6.below.cell (p := ⟨c, off + i, none⟩) h3).trans (HWA5.out i hi)
        have hD6 : D ≤ w6.heap.size := Nat.le_trans hD5 hK6.below.size
        have HT6 : Hid (tryGo x n (xs.map bl) [] 0 = tryGo x rn ((xs.map bl).drop (k + 1)) ((zs ++ [(u ++ ⟨#[32]⟩) ++ s]).map bl) (rc + 1)) := by
          show _ = _
          rw [HF.out, List.map_append]
          show _ = tryGo _ _ _ (_ ++ [bl _]) _
          rw [show bl ((u ++ ⟨#[32]⟩) ++ s) = badLine (bl u) (rc + 1) by rw [app_bl u s [32], HSX.out]; rfl]
        clear hown6 hgrow6 hK6 hal HF
        go_wp2_with fail
        go_roundg (m - (k + 1))
        case measure => omega
        case rel => exact ⟨k + 1, rc + 1, rn, _, by go_num, by omega, Nat.le_refl _, by rw [List.length_append, hzl]; rfl, hle, rfl, hD6, HT6, HN6, HO6, HWA6, BX6, K6⟩
    · obtain rfl : k = m := by omega
      have HF : Hid (tryGo x n (xs.map bl) [] 0 = (last, [], zs.map bl, nk)) := by
        show _ = _
        rw [HT.out, List.drop_of_length_le (by rw [List.length_map, HMM.out]; exact Nat.le_refl _)]
        rfl
      have HN6 := Lib.hid (HN.out.later (show t + k ≤ t + 20 by omega))
      have HO6 := Lib.hid (HO.out.low hwD)
      clear HT HN HO
      go_wp2_with fail
      go_ret3
      rw [HAX.out, HF.out]
      exact ⟨_, _, _, _, rfl, errV_is hla, FOwn.nil _ _, HO6, ⟨rfl, by omega⟩, HN6, K⟩
end Go.Proofs.YtomceddfbfpjjaaGreatDoor

namespace Go.Proofs.YtomceddfbfpjjaaGreatDoor
open Go Go.RowKit

/-- First the net's blocks are turned, then the held's. -/
def FetchFrame (nb hb Bn Bh : Nat) (w w' : World) : Prop := ∃ w5, KeepsU 4 nb NetRow Bn w w5 ∧ KeepsU 2 hb HeldRow Bh w5 w'
theorem FetchFrame.below {nb hb Bn Bh : Nat} {w w' : World} (h : FetchFrame nb hb Bn Bh w w') (hB : Bn ≤ Bh) : Below Bn w w' := by
  obtain ⟨w5, h1, h2⟩ := h
  exact h1.below.trans (h2.below.mono hB)
theorem FetchFrame.rnet {nb hb Bn Bh B m : Nat} {w w' : World} {n : NetB} (h : FetchFrame nb hb Bn Bh w w') (hn : RNetIs w B m n) : RNetIs w' B m n := by
  obtain ⟨w5, h1, h2⟩ := h
  exact (hn.keepN h1.toKeeps).keepH h2.toKeeps
theorem FetchFrame.rheld {nb hb Bn Bh B m : Nat} {W0 w w' : World} {k : HeldB} (h : FetchFrame nb hb Bn Bh w w') (hn : RHeldIs W0 w B m k) : RHeldIs W0 w' B m k := by
  obtain ⟨w5, h1, h2⟩ := h
  exact (hn.keepN h1.toKeeps).keepH h2.toKeeps
/-- What Fetch hands back, and leaves. -/
def FetchPost (E : Nat → Addr) (Bn nb Bh hb t : Nat) (r : Er × List FileB × List (List UInt8) × HeldB × NetB) (w : World) (e : Ending) (w' : World) : Prop :=
  ∃ fv lv ev zs, e = .returned (.tuple #[fv, lv, ev]) ∧ Hid (IsErr E w' ev r.1) ∧ Hid (FOwn w' w.heap.size fv r.2.1) ∧ Hid (TOwn w' w.heap.size lv zs) ∧ Hid (zs.map bl = r.2.2.1 ∧ zs.length ≤ 20) ∧ Hid (HeldIs w' Bh hb r.2.2.2.1) ∧ Hid (NetIs w' Bn nb r.2.2.2.2 (t + 20)) ∧ Hid (FetchFrame nb hb Bn Bh w w')

set_option maxRecDepth 100000 in
theorem fetch_noHeld {E : Nat → Addr} (nv v : Value) (x : WantB) (w : World) (hE : Env E w) :
    Calls Tryz.prog 18 #[.pointer none, nv, v, .agg #[.string x.name, .string x.url, .string x.kind, .int .i64 x.strip, .int .i64 x.sum]] w fun e w' => e = .returned (.tuple #[.slice none 0 0, .slice none 0 0, sentV E 2]) ∧ Below w.heap.size w w' := by
  have hbx : Below w.heap.size w (w.alloc (.cells #[.string x.name, .string x.url, .string x.kind, .int .i64 x.strip, .int .i64 x.sum] 25)) := (Below.refl _ _).alloc (Nat.le_refl _) _
  obtain ⟨wx, hwx⟩ : ∃ wx, w.alloc (.cells #[.string x.name, .string x.url, .string x.kind, .int .i64 x.strip, .int .i64 x.sum] 25) = wx := ⟨_, rfl⟩
  rw [hwx] at hbx
  have HWX := Lib.hid hwx
  have HB := Lib.hid hbx
  have e1 : wx.cell? ⟨0, 0, none⟩ = some (sentV E 2) := (hE.ext hbx).err 2 (by decide)
  clear hwx hbx hE
  go_enter Tryz.func18, Tryz.ntmps18
  go_upto_region 1 with fail
  rw [HWX.out]
  go_wp2_with fail
  go_quiet (fail)
  go_wp2_with fail
  go_ret3
  exact ⟨rfl, HB.out.trans ((below_drewN _ _ _).mono HB.out.size)⟩
set_option maxRecDepth 100000 in
theorem fetch_noNet {E : Nat → Addr} (hp : Addr) (v : Value) (x : WantB) (w : World) (hE : Env E w) :
    Calls Tryz.prog 18 #[.pointer (some hp), .pointer none, v, .agg #[.string x.name, .string x.url, .string x.kind, .int .i64 x.strip, .int .i64 x.sum]] w fun e w' => e = .returned (.tuple #[.slice none 0 0, .slice none 0 0, sentV E 2]) ∧ Below w.heap.size w w' := by
  have hbx : Below w.heap.size w (w.alloc (.cells #[.string x.name, .string x.url, .string x.kind, .int .i64 x.strip, .int .i64 x.sum] 25)) := (Below.refl _ _).alloc (Nat.le_refl _) _
  obtain ⟨wx, hwx⟩ : ∃ wx, w.alloc (.cells #[.string x.name, .string x.url, .string x.kind, .int .i64 x.strip, .int .i64 x.sum] 25) = wx := ⟨_, rfl⟩
  rw [hwx] at hbx
  have HWX := Lib.hid hwx
  have HB := Lib.hid hbx
  have e1 : wx.cell? ⟨0, 0, none⟩ = some (sentV E 2) := (hE.ext hbx).err 2 (by decide)
  clear hwx hbx hE
  go_enter Tryz.func18, Tryz.ntmps18
  go_upto_region 1 with fail
  rw [HWX.out]
  go_wp2_with fail
  go_quiet (fail)
  go_wp2_with fail
  go_ret3
  exact ⟨rfl, HB.out.trans ((below_drewN _ _ _).mono HB.out.size)⟩

set_option maxHeartbeats 4000000 in
set_option maxRecDepth 100000 in
theorem fetch_any {E : Nat → Addr} (Bn nb Bh hb t : Nat) (n : NetB) (hd : HeldB) (v : Value) (l : List RuleB) (x : WantB) (w : World) (h : NetIs w Bn nb n t) (hh : HeldIs w Bh hb hd) (hap : nb + 2 ≤ hb) (hBB : Bn ≤ Bh) (ht : t + 20 < 1000000000) (hl : l.length ≤ 1000) (hs : ∀ r ∈ l, Small r) (hx : AskW x) (hv : RulesRow w v l) (hBw : Bh ≤ w.heap.size) (hEB : ∀ W, Below Bn w W → FtEnv E W) (hG : ∀ k, k < 13 → gE k < Bn) :
    Calls Tryz.prog 18 #[.pointer (some ⟨hb, 0, none⟩), .pointer (some ⟨nb, 0, none⟩), v, .agg #[.string x.name, .string x.url, .string x.kind, .int .i64 x.strip, .int .i64 x.sum]] w (FetchPost E Bn nb Bh hb t (fetchF hd n (l.map ruleOf) x) w) := by
  have hBn : Bn ≤ w.heap.size := Nat.le_trans hBB hBw
  obtain ⟨px, hpx⟩ : ∃ px, w.heap.size = px := ⟨_, rfl⟩
  obtain ⟨wx, hwx⟩ : ∃ wx, w.alloc (.cells #[.string x.name, .string x.url, .string x.kind, .int .i64 x.strip, .int .i64 x.sum] 25) = wx := ⟨_, rfl⟩
  have hbx : Below w.heap.size w wx := by rw [← hwx]; exact (Below.refl _ _).alloc (Nat.le_refl _) _
  have BX := Lib.hid (show WBox wx px x by rw [← hwx, ← hpx]; exact WBox.new w x)
  have HB := Lib.hid hbx
  have HEB := Lib.hid hEB
  have HWX := Lib.hid hwx
  have HPX := Lib.hid hpx
  have HX := Lib.hid hx
  have HG := Lib.hid hG
  have HS := Lib.hid hs
  have HV0 := Lib.hid (hv.ext hbx)
  have HN0 := Lib.hid (h.below hbx)
  have HH0 := Lib.hid (hh.below hbx)
  have C := Lib.hid (fetchRight_any v l x wx hl hs hx (hv.ext hbx) (hEB wx (hbx.mono hBn)))
  obtain ⟨c0, c1, c2, c3, c4⟩ := BX.out.cells
  clear hpx hwx hbx hEB hx hv h hh hG hs
  go_enter Tryz.func18, Tryz.ntmps18
  go_upto_region 1 with fail
  rw [HWX.out, HPX.out]
  go_wp2_with fail
  refine C.out.mono ?_
  clear C c0 c1 c2 c3 c4
  intro e w1 hpost
  unfold AskPost at hpost
  obtain ⟨⟨ev, rfl, HV⟩, hb1⟩ := hpost
  have B1 := Lib.hid (HB.out.trans (hb1.mono HB.out.size))
  have HN1 := Lib.hid (HN0.out.below hb1)
  have HH1 := Lib.hid (HH0.out.below hb1)
  have HV1 := Lib.hid (HV0.out.ext hb1)
  have BX1 := Lib.hid (BX.out.ext hb1)
  clear HN0 HH0 HV0 BX
  by_cases h0 : (askE (l.map ruleOf) x).code = 0
  rotate_left
  · have HA := Lib.hid (fetchF_ask (h := hd) (n := n) h0)
    obtain ⟨ty, y, rfl⟩ := HV.out.some_inv h0
    have HN2 := Lib.hid (HN1.out.later (Nat.le_add_right t 20))
    clear h0
    go_wp2_with fail
    go_ret3
    rw [HA.out]
    exact ⟨_, _, _, [], rfl, HV, FOwn.nil _ _, TOwn.nil _ _, ⟨rfl, Nat.zero_le _⟩, HH1, HN2, ⟨w1, KeepsU.of B1.out hBn, KeepsU.refl _ _ _ _ _⟩⟩
  obtain rfl : ev = .nilIface := HV.out.zero h0
  have hok := askE_want h0
  have hsum := hok.sum
  have HOK := Lib.hid hok
  have HAK := Lib.hid h0
  obtain ⟨c0, c1, c2, c3, c4⟩ := BX1.out.cells
  have C := Lib.hid (heldGet_any Bh hb hd x.sum (by unfold I64; omega) w1 HH1.out (HEB.out w1 (B1.out.mono hBn)).env)
  clear hb1 h0 hok HV
  go_wp2_with fail
  refine C.out.mono ?_
  clear C
  intro e w2 hpost
  unfold HGetPost at hpost
  obtain ⟨hpost, hb2⟩ := hpost
  have B2 := Lib.hid (B1.out.trans (hb2.mono B1.out.size))
  have HN2 := Lib.hid (HN1.out.below hb2)
  have HH2 := Lib.hid (HH1.out.below hb2)
  have HV2 := Lib.hid (HV1.out.ext hb2)
  have BX2 := Lib.hid (BX1.out.ext hb2)
  clear HN1 HH1 HV1 BX1 hb2 c0 c1 c2 c3 c4
  rcases hpost with ⟨tr, ov, ho, rfl, HO⟩ | ⟨ho, rfl⟩
  · have HA := Lib.hid (fetchF_held (h := hd) (n := n) HAK.out ho)
    clear ho
    go_wp2_with fail
    go_ret3
    rw [HA.out]
    have hal : Below w2.heap.size w2 (w2.alloc (.cells #[.string ⟨#[104, 101, 108, 100]⟩] 9)) := (Below.refl _ _).alloc (Nat.le_refl _) _
    refine ⟨_, _, _, [⟨#[104, 101, 108, 100]⟩], rfl, .inl ⟨rfl, rfl⟩, (FOwn.low HO.out B1.out.size).ext hal, ?_, ⟨rfl, by decide⟩, HH2.out.below hal, (HN2.out.below hal).later (Nat.le_add_right t 20), ⟨_, KeepsU.of (B2.out.trans (hal.mono B2.out.size)) hBn, KeepsU.refl _ _ _ _ _⟩⟩
    exact World.ownsRow_lit w2 #[.string ⟨#[104, 101, 108, 100]⟩] 1 B2.out.size (by decide) rfl
  have HA := Lib.hid (fetchF_from (h := hd) (n := n) HAK.out ho)
  have hBn2 : Bn ≤ w2.heap.size := Nat.le_trans hBn B2.out.size
  obtain ⟨c0, c1, c2, c3, c4⟩ := BX2.out.cells
  have C := fetchTry_any Bn nb t n v l x w2 HN2.out ht hl HS.out HX.out HV2.out hBn2 (fun W hW => HEB.out W ((B2.out.mono hBn).trans hW)) HG.out
  have HFI := Lib.hid (@tryF_fine n (l.map ruleOf) x)
  have HBA := Lib.hid (@tryF_bad n (l.map ruleOf) x)
  obtain ⟨r, hr⟩ : ∃ r, tryF n (l.map ruleOf) x = r := ⟨_, rfl⟩
  rw [hr] at C HA HFI HBA
  obtain ⟨er, fs, ls, n'⟩ := r
  unfold TryPost at C
  dsimp only at C HA HFI HBA
  have HC := Lib.hid C
  clear C ho hr
  go_wp2_with fail
  refine HC.out.mono ?_
  clear HC c0 c1 c2 c3 c4 HN2 HV2 BX2
  rintro e w3 ⟨fv, lv, ev, zs, rfl, HI, HF, HT, HZ, HN, HK⟩
  have HH3 := Lib.hid (HH2.out.apartN HK.out hap)
  have B3 := Lib.hid ((KeepsU.of (K := NetRow) (b := nb) (n := 4) B2.out hBn).trans HK.out)
  have HF3 := Lib.hid (FOwn.low HF.out B2.out.size)
  have HT3 := Lib.hid (HT.out.low B2.out.size)
  clear HH2 HF HT
  by_cases hz : er.code = 0
  · obtain ⟨he, hte, _, _⟩ := HFI.out hz
    obtain rfl : ev = .nilIface := HI.out.zero hz
    have hB3 : Bh ≤ w3.heap.size := Nat.le_trans hBw B3.out.below.size
    have hrl := right_len hte
    have C := Lib.hid (heldPut_any Bh hb hd fv fs w3 (fun w' hk => FOwn.arg (base := w.heap.size) (hk.owns HF3.out heldRow_files)) hrl.1 hrl.2 HH3.out hB3 (HEB.out w3 B3.out.below).1.1)
    have HY : Hid (fetchF hd n (l.map ruleOf) x = (⟨0, none⟩, fs, ls, (putH hd fs).2.2, n')) := by show _ = _; rw [HA.out, if_pos hz, he]
    clear hz he hte hrl HA HFI HBA HI
    go_wp2_with fail
    refine C.out.mono ?_
    clear C
    intro e w4 hpost
    unfold HPutPost at hpost
    obtain ⟨⟨ev2, rfl, hev⟩, hhi, hk, _⟩ := hpost
    have HH4 := Lib.hid hhi
    have HK4 := Lib.hid hk
    clear hhi hk hev
    go_wp2_with fail
    go_ret3
    rw [HY.out]
    exact ⟨_, _, _, zs, rfl, .inl ⟨rfl, rfl⟩, HK4.out.toKeeps.owns HF3.out heldRow_files, HK4.out.toKeeps.owns HT3.out kh_str, HZ, HH4, HN.out.apartH HK4.out hap, ⟨w3, B3.out, HK4.out⟩⟩
  · obtain ⟨ty, y, rfl⟩ := HI.out.some_inv hz
    have HY : Hid (fetchF hd n (l.map ruleOf) x = (er, fs, ls, hd, n')) := by show _ = _; rw [HA.out, if_neg hz]
    clear hz HA HFI HBA
    go_wp2_with fail
    go_ret3
    rw [HY.out]
    exact ⟨_, _, _, zs, rfl, HI, HF3, HT3, HZ, HH3, HN, ⟨w3, B3.out, KeepsU.refl _ _ _ _ _⟩⟩
end Go.Proofs.YtomceddfbfpjjaaGreatDoor

namespace Go.Proofs.YtomceddfbfpjjaaGreatDoor
open Go Go.RowKit

theorem longW_ask {x : WantB} (h : longW x = 0) : AskW x := by
  unfold longW at h
  split at h
  · cases h
  · rename_i h1; exact ⟨by omega, by omega⟩
/-- What longAsk answers. -/
def LAskPost (l : List RuleB) (x : WantB) (w : World) (e : Ending) (w' : World) : Prop := (∃ r : Bool, e = .returned (.bool r) ∧ Hid (r = false → l.length ≤ 12 ∧ (∀ r ∈ l, Small r) ∧ AskW x)) ∧ Below w.heap.size w w'
set_option maxHeartbeats 1000000 in
set_option maxRecDepth 100000 in
theorem longAsk_any (v : Value) (l : List RuleB) (x : WantB) (w : World) (hv : RulesRow w v l) :
    Calls Tryz.prog 7 #[v, .agg #[.string x.name, .string x.url, .string x.kind, .int .i64 x.strip, .int .i64 x.sum]] w (LAskPost l x w) := by
  obtain ⟨px, hpx⟩ : ∃ px, w.heap.size = px := ⟨_, rfl⟩
  obtain ⟨wx, hwx⟩ : ∃ wx, w.alloc (.cells #[.string x.name, .string x.url, .string x.kind, .int .i64 x.strip, .int .i64 x.sum] 25) = wx := ⟨_, rfl⟩
  have hbx : Below w.heap.size w wx := by rw [← hwx]; exact (Below.refl _ _).alloc (Nat.le_refl _) _
  have BX := Lib.hid (show WBox wx px x by rw [← hwx, ← hpx]; exact WBox.new w x)
  have HB := Lib.hid hbx
  have HWX := Lib.hid hwx
  have HPX := Lib.hid hpx
  have C := Lib.hid (longRules_any v l wx (hv.ext hbx))
  have C2 := Lib.hid (longWant_any x wx)
  obtain ⟨c0, c1, c2, c3, c4⟩ := BX.out.cells
  clear hpx hwx hbx hv
  go_enter Tryz.func7, Tryz.ntmps7
  go_upto_region 1 with fail
  rw [HWX.out, HPX.out]
  go_wp2_with fail
  refine C.out.mono ?_
  clear C
  intro e w1 hpost
  unfold LongPost at hpost
  obtain ⟨⟨n, rfl, hn, HL⟩, rfl⟩ := hpost
  rcases hn with rfl | rfl
  · have HLL := Lib.hid (HL.out rfl)
    go_wp2_with fail
    refine C2.out.mono ?_
    clear C2
    rintro e w2 ⟨rfl, hb2⟩
    have HLA := Lib.hid (@longW_ask x)
    obtain ⟨k, hk⟩ : ∃ k, longW x = k := ⟨_, rfl⟩
    rw [hk] at HLA ⊢
    clear hk
    by_cases hz : k = 0
    · subst hz
      go_wp2_with fail
      go_ret
      exact ⟨⟨_, rfl, fun _ => ⟨HLL.out.1, HLL.out.2, HLA.out (by first | rfl | trivial)⟩⟩, HB.out.trans (hb2.mono HB.out.size)⟩
    · have hpos : (0 : Int) < (k : Int) := by omega
      go_wp2_with fail
      go_ret
      exact ⟨⟨_, rfl, fun h => by first | cases h | (simp at h; omega)⟩, HB.out.trans (hb2.mono HB.out.size)⟩
  · go_wp2_with fail
    go_ret
    exact ⟨⟨_, rfl, fun h => by cases h⟩, HB.out⟩

set_option maxHeartbeats 4000000 in
set_option maxRecDepth 100000 in
theorem fetched_any {E : Nat → Addr} (w : World) (hE : FtEnv E w) :
    Calls Tryz.prog 5 #[] w fun e w' => e = .returned (.bool true) ∧ Below w.heap.size w w' := by
  have HE := Lib.hid hE
  have HG := Lib.hid (gE_lt hE.env)
  have C := Lib.hid (netNew_any w)
  clear hE
  go_enter Tryz.func5, Tryz.ntmps5
  go_wp2_with fail
  refine C.out.mono ?_
  clear C
  rintro e w1 ⟨b, rfl, HN1, hb1⟩
  obtain ⟨p, hp⟩ : ∃ p, w1.heap.size = p := ⟨_, rfl⟩
  obtain ⟨wa, hwa⟩ : ∃ wa, w1.alloc (.cells #[.string ⟨#[97]⟩, .bool false, .string ⟨#[104, 105]⟩] 68) = wa := ⟨_, rfl⟩
  have hal : Below w1.heap.size w1 wa := by rw [← hwa]; exact (Below.refl _ _).alloc (Nat.le_refl _) _
  have HT : Hid (FOwn wa p (.slice (some ⟨p, 0, none⟩) 1 1) fetT) := by show FOwn _ _ _ _; rw [← hwa, ← hp]; exact one_own w1 ⟨⟨#[97]⟩, false, hiB⟩
  have B1 := Lib.hid (hb1.trans (hal.mono hb1.size))
  have HNa := Lib.hid (HN1.below hal)
  have HWA := Lib.hid hwa
  have HP := Lib.hid hp
  have C := packSum_any _ fetT wa HT.out.row (by decide) (fun f hf => by obtain rfl := List.mem_singleton.1 hf; exact ⟨by decide, by decide⟩) (HE.out.ext B1.out).1.1
  unfold PSumPost at C
  rw [fetT_er] at C
  obtain ⟨s, hs⟩ : ∃ s : Int, ((sumL (packT fetT) : Nat) : Int) = s := ⟨_, rfl⟩
  rw [hs] at C
  have HC := Lib.hid C
  have HSS : Hid (fetW = ⟨⟨#[97]⟩, urlHx, ⟨#[112, 108, 97, 105, 110]⟩, 0, s⟩) := by show _ = _; unfold fetW; rw [← hs]; rfl
  clear C HN1 hal hwa hp hb1 hs
  go_wp2_with fail
  rw [HWA.out, HP.out]
  refine HC.out.mono ?_
  clear HC
  rintro e w2 ⟨⟨ev, rfl, HI⟩, hb2⟩
  obtain rfl : ev = .nilIface := HI.out.zero rfl
  have B2 := Lib.hid (B1.out.trans (hb2.mono B1.out.size))
  have HN2 := HNa.out.below hb2
  have C := netPut_any w.heap.size b 0 ⟨[], [], 0⟩ urlHx hiB w2 HN2 (by decide) (by decide) B2.out.size (HE.out.ext B2.out).net
  rw [put_hx] at C
  unfold NetPost at C
  dsimp only at C
  rw [show errV E 0 = .nilIface from rfl] at C
  have HC := Lib.hid C
  clear C HN2 HNa HI hb2
  go_wp2_with fail
  refine HC.out.mono ?_
  clear HC
  rintro e w3 ⟨rfl, HN3, HK3⟩
  have B3 := Lib.hid (B2.out.trans (HK3.below.mono (Nat.le_refl _)))
  have HN3h := Lib.hid HN3
  have C := Lib.hid (heldNew_any 3 w3)
  clear HN3 HK3
  go_wp2_with fail
  refine C.out.mono ?_
  clear C
  rintro e w4 ⟨hb, rfl, HH4, hb4⟩
  have B4 := Lib.hid (B3.out.trans (hb4.mono B3.out.size))
  have HN4 := HN3h.out.below hb4
  have hnl := HN3h.out.lt
  have hhl := HH4.le
  have C := fetch_any w.heap.size b w3.heap.size hb 1 fetN (newH 3) (.slice none 0 0) [] fetW w4 HN4 HH4 (by omega) B3.out.size (by decide) (by decide) (fun r hr => by cases hr) ⟨by decide, by decide⟩ ⟨none, 0, rfl, Nat.le_refl _, Nat.zero_le _, fun i hi => absurd hi (Nat.not_lt_zero _)⟩ hb4.size (fun W hW => HE.out.ext (B4.out.trans hW)) HG.out
  obtain ⟨h1, h2, h3⟩ := fet_fetch
  unfold FetchPost at C
  rw [show ([] : List RuleB).map ruleOf = [] from rfl, h1, h2, h3, HSS.out] at C
  have HC := Lib.hid C
  clear C HN4 hnl hhl h1 h2 h3 HN3h hb4 HH4
  go_wp2_with fail
  refine HC.out.mono ?_
  clear HC
  rintro e w5 ⟨fv, lv, ev, zs, rfl, HI, HF, HT5, HZ, _, _, HFR⟩
  obtain rfl : ev = .nilIface := HI.out.zero rfl
  have hb5 : Below w.heap.size w4 w5 := HFR.out.below B3.out.size
  have B5 := Lib.hid (B4.out.trans hb5)
  obtain ⟨fo, fc, hfv, hf1, hf2, hf3⟩ := HF.out.row
  obtain ⟨fb, foff, rfl, hfl, hfc⟩ := hf3 0 (by decide)
  obtain ⟨_, _, q2⟩ := hfc 0 (by decide)
  rw [show fetT.length = 1 from rfl] at hfv hf1
  subst hfv
  have q2' : w5.cell? ⟨fb, foff + 0 * 3 + 2, none⟩ = some (.string ⟨#[104, 105]⟩) := q2
  have q3 : w5.cell? ⟨fb, foff + 2, none⟩ = some (.string ⟨#[104, 105]⟩) := q2
  have hzs : zs = [okHx] := by
    have h1 := HZ.out.1
    have key : ∀ l : List ByteArray, l.map bl = [bl okHx] → l = [okHx] := fun l hl => by
      rcases l with _ | ⟨z, _ | ⟨z2, r⟩⟩
      · cases hl
      · injection hl with h _
        rw [bl_inj h]
      · injection hl with _ h
        cases h
    exact key zs h1
  subst hzs
  obtain ⟨lo, lc, rfl⟩ := HT5.out.shape
  have hal5 : Below w5.heap.size w5 (w5.alloc (.cells #[.string ⟨#[104, 116, 116, 112, 58, 47, 47, 104, 47, 120, 32, 111, 107]⟩] 9)) := (Below.refl _ _).alloc (Nat.le_refl _) _
  have C := Lib.hid (sameTexts_same (HT5.out.ext hal5).row (TOwn.row (zs := [okHx]) (World.ownsRow_lit (base := 0) (e := 9) (size := 1) w5 #[.string ⟨#[104, 116, 116, 112, 58, 47, 47, 104, 47, 120, 32, 111, 107]⟩] 1 (Nat.zero_le _) (by decide) rfl)) rfl (by decide))
  have HAL5 := Lib.hid hal5
  have e0 : (({ data := #[104, 105] } : ByteArray).toList == ({ data := #[104, 105] } : ByteArray).toList) = true := beq_self_eq_true _
  clear hf2 hfc hal5 HF HT5 q2 hb5 HI
  go_wp2_with fail
  refine C.out.mono ?_
  clear C
  rintro e w6 ⟨rfl, hb6⟩
  go_wp2_with fail
  go_ret
  exact ⟨rfl, B5.out.trans ((HAL5.out.trans (hb6.mono HAL5.out.size)).mono B5.out.size)⟩
end Go.Proofs.YtomceddfbfpjjaaGreatDoor

namespace Go.Proofs.YtomceddfbfpjjaaGreatDoor
open Go Go.RowKit

/-- What the reference's TryOf hands back, and leaves. -/
def RTryPost (B m : Nat) (r : Er × List FileB × List (List UInt8) × NetB) (w : World) (e : Ending) (w' : World) : Prop :=
  ∃ fv lv zs, e = .returned (.tuple #[fv, lv, .agg (erA r.1)]) ∧ Hid (FOwn w' w.heap.size fv r.2.1) ∧ Hid (TOwn w' w.heap.size lv zs) ∧ Hid (zs.map bl = r.2.2.1 ∧ zs.length ≤ 20) ∧ Hid (RNetIs w' B m r.2.2.2) ∧ Hid (Keeps RNetRow B w w') ∧ Hid (∀ a, r.1.at? = some a → Below w.heap.size w w')
theorem kr_want (cs : Array Value) : ¬ RNetRow (.cells cs 25 (0, 0)) := by
  rintro (⟨c, fz, h⟩ | ⟨c, fz, h⟩) <;> (injection h with _ h3 _; exact absurd h3 (by decide))
/-- Texts in a block of texts. -/
def WaysIn (w : World) (c off : Nat) (xs : List ByteArray) : Prop := (∃ cs, w.heap[c]? = some (.cells cs 9 (0, 0))) ∧ WaysAt w c off xs
theorem WaysIn.same {w w' : World} {c off : Nat} {xs : List ByteArray} (h : WaysIn w c off xs) (hb : w'.heap[c]? = w.heap[c]?) : WaysIn w' c off xs := by
  obtain ⟨⟨cs, h1⟩, h2⟩ := h
  exact ⟨⟨cs, hb.trans h1⟩, fun i hi => (World.cell?_of_block (w := w) (a := ⟨c, off + i, none⟩) hb).trans (h2 i hi)⟩
theorem WaysIn.keeps {K : Obj → Prop} {B : Nat} {w w' : World} {c off : Nat} {xs : List ByteArray} (h : WaysIn w c off xs) (hk : Keeps K B w w') (h1 : ∀ cs, ¬ K (.cells cs 9 (0, 0))) : WaysIn w' c off xs := by
  obtain ⟨cs, h2⟩ := h.1
  exact h.same ((hk.keep c _ h2 (h1 _)).trans h2.symm)
theorem owns_under {w w' : World} {D base size n : Nat} {e : TypeId} {v : Value} {xs : List Value} (h : w.ownsRow base e size v n xs) (hb : Below D w w') (hD : ∀ k, v.ownBlock = some k → k < D) : w'.ownsRow base e size v n xs := by
  refine ⟨h.1, ?_⟩
  rcases h.2 with h0 | ⟨g, cap, cur, rfl, hbs, hg, hr⟩
  · exact .inl h0
  · exact .inr ⟨g, cap, cur, rfl, hbs, by rw [hb.block g (hD g rfl)]; exact hg, hr⟩
theorem RNetAt.under {w w' : World} {B m D : Nat} {n : NetB} {vL vO : Value} (h : RNetAt w B m n vL vO) (hb : Below D w w') (hm : m < D) (hL : ∀ k, vL.ownBlock = some k → k < D) (hO : ∀ k, vO.ownBlock = some k → k < D) : RNetAt w' B m n vL vO :=
  ⟨h.hm, by rw [hb.block m hm]; exact h.blk, owns_under h.sites hb hL, owns_under h.offs hb hO⟩
theorem FaultAt.under {w w' : World} {D q : Nat} {c a : Int} (h : FaultAt w q c a) (hb : Below D w w') (hq : q < D) : FaultAt w' q c a := (hb.block q hq).trans h
theorem WBox.under {w w' : World} {D p : Nat} {x : WantB} (h : WBox w p x) (hb : Below D w w') (hp : p < D) : WBox w' p x := (hb.block p hp).trans h
theorem text_new (w : World) (t : ByteArray) : (w.alloc (.cells #[.string t] 9)).cell? ⟨w.heap.size, 0, none⟩ = some (.string t) := by rw [World.cell?_alloc_at _ _ _ _ rfl]; rfl
theorem text_newD (w : World) (t : ByteArray) : (w.alloc (.cells #[.string t] 9)).drew.cell? ⟨w.drew.heap.size, 0, none⟩ = some (.string t) := text_new w t
theorem size_new {D : Nat} {w : World} (h : D ≤ w.heap.size) (o : Obj) : D ≤ (w.alloc o).heap.size := Nat.le_trans h (by simp)
/-- In a region that draws its order: one text is appended. -/
theorem step_append_text {w : World} {ops : Array Oper} {o : Oper} {a : Act} {K : Act → World → Prop} {Q : Exit → Act → World → Prop} {E : Prop} (hgd : o.guard = none) (s x : Operand)
    (ho : o.op = Op.call { callee := Callee.builtin Builtin.append, args := #[s, x], argTypes := #[35, 35] })
    (base : Nat) (v : Value) (zs : List ByteArray) (n : Nat) (hn : zs.length = n) (hs : a.eval s = v) (hown : w.ownsRow base 9 1 v n (zs.map Value.string)) (t : ByteArray) (g : Nat) (hx : a.eval x = .slice (some ⟨g, 0, none⟩) 1 1) (hc : w.cell? ⟨g, 0, none⟩ = some (.string t)) (hlen : n ≤ 100000) (hbase : base ≤ w.heap.size)
    (hK : ∀ v' w', Hid (TOwn w' base v' (zs ++ [t])) → Hid (Keeps LRow base w w') → K (a.put o.dst v') w') :
    if Region.wanted o (yielded ops a.tmps) = true then Oper.wp Tryz.prog o a w K Q else E := by
  obtain ⟨i0, hi0, hz0, hz1, hz2⟩ := info_parts Tryz.infoW
  refine step_append_own hgd s x 35 ho base 9 i0 (.string ⟨#[]⟩) 1 16 Tryz.underlying35 hi0 hz0 hz1 hz2 rfl (by decide) v n _ hs hown ⟨g, 0, none⟩ 1 1 [.string t] hx rfl ?_ ?_ ?_ ?_ hbase ?_
  · intro j u hj
    match j, hj with
    | 0, hj => simp at hj; subst hj; exact hc
    | j + 1, hj => simp at hj
  · intro u hu; simp at hu; subst hu; rfl
  · rw [maxLen_eq]; omega
  · omega
  · intro v' w' h1 h2
    refine hK v' w' ?_ (keeps_grown hown h2 hbase (fun cs => ⟨_, _, rfl⟩))
    show w'.ownsRow _ _ _ _ _ _
    rw [List.length_append, hn, List.map_append]
    exact h1

set_option maxHeartbeats 8000000 in
set_option maxRecDepth 100000 in
theorem refTry_any (B m : Nat) (n : NetB) (v : Value) (l : List RuleB) (x : WantB) (w : World) (h : RNetIs w B m n) (hok : NetOk n) (ho : n.off.length ≤ 1000000) (hcl : n.calls ≤ 100000000) (hl : l.length ≤ 1000) (hs : ∀ r ∈ l, Small r) (hx : AskW x) (hv : RulesRow w v l) (hBw : B ≤ w.heap.size) :
    Calls Tryz.prog 14 #[.pointer (some ⟨m, 0, none⟩), v, .agg #[.string x.name, .string x.url, .string x.kind, .int .i64 x.strip, .int .i64 x.sum]] w (RTryPost B m (tryF n (l.map ruleOf) x) w) := by
  obtain ⟨px, hpx⟩ : ∃ px, w.heap.size = px := ⟨_, rfl⟩
  obtain ⟨wx, hwx⟩ : ∃ wx, w.alloc (.cells #[.string x.name, .string x.url, .string x.kind, .int .i64 x.strip, .int .i64 x.sum] 25) = wx := ⟨_, rfl⟩
  have hbx : Below w.heap.size w wx := by rw [← hwx]; exact (Below.refl _ _).alloc (Nat.le_refl _) _
  have hBX : WBox wx px x := by rw [← hwx, ← hpx]; exact WBox.new w x
  have hxs : wx.heap.size = px + 1 := by rw [← hwx, ← hpx, World.size_alloc]
  obtain ⟨g, hg⟩ : ∃ g, px + 1 = g := ⟨_, rfl⟩
  obtain ⟨wg, hwg⟩ : ∃ wg, wx.alloc (.cells #[.int .i64 0, .int .i64 0] 50) = wg := ⟨_, rfl⟩
  have hal : Below wx.heap.size wx wg := by rw [← hwg]; exact (Below.refl _ _).alloc (Nat.le_refl _) _
  have FG := Lib.hid (show FaultAt wg g 0 0 by rw [← hwg, ← hg, ← hxs]; exact FaultAt.new wx 0 0)
  have hgw : w.heap.size ≤ g := by rw [← hg, ← hxs]; exact hbx.size
  have BG := Lib.hid (hbx.trans (hal.mono hbx.size))
  have BXG := Lib.hid (hBX.ext hal)
  have HWX := Lib.hid hwx
  have HPX := Lib.hid hpx
  have HWG := Lib.hid hwg
  have HG := Lib.hid hg
  have HX := Lib.hid hx
  have HS := Lib.hid hs
  have HV := Lib.hid (hv.ext BG.out)
  obtain ⟨vL, vO, hA⟩ := h
  have HN := Lib.hid (hA.below BG.out)
  have hmw : m < w.heap.size := (Array.getElem?_eq_some_iff.1 hA.blk).1
  have HLw : Hid (∀ k, vL.ownBlock = some k → k < w.heap.size) := fun k hk => (World.ownsRow.lt hA.sites k hk).2
  have HOw : Hid (∀ k, vO.ownBlock = some k → k < w.heap.size) := fun k hk => (World.ownsRow.lt hA.offs k hk).2
  have HOK := Lib.hid hok
  have C := Lib.hid (refAsk_any v l x wg hl hs hx (hv.ext BG.out))
  obtain ⟨c0, c1, c2, c3, c4⟩ := BXG.out.cells
  clear hpx hwx hbx hBX hg hwg hal hv hx hs hxs hA hok
  go_enter Tryz.func14, Tryz.ntmps14
  go_upto_region 1 with fail
  rw [HWX.out, HPX.out, HWG.out, HG.out]
  go_wp2_with fail
  refine C.out.mono ?_
  clear C c0 c1 c2 c3 c4
  intro e w1 hpost
  unfold RAskPost at hpost
  obtain ⟨rfl, hb1⟩ := hpost
  have F1 := Lib.hid (FG.out.ext hb1)
  have B1 := Lib.hid (BG.out.trans (hb1.mono BG.out.size))
  have BX1 := Lib.hid (BXG.out.ext hb1)
  obtain ⟨c, hc⟩ : ∃ c, (askE (l.map ruleOf) x).code = c := ⟨_, rfl⟩
  obtain ⟨a, ha⟩ : ∃ a : Int, (askE (l.map ruleOf) x).at?.getD (-1) = a := ⟨_, rfl⟩
  have HC := Lib.hid hc
  have HA := Lib.hid ha
  rw [show erA (askE (l.map ruleOf) x) = #[.int .i64 c, .int .i64 a] by unfold erA; rw [hc, ha]]
  obtain ⟨q, hq⟩ : ∃ q, w1.heap.size = q := ⟨_, rfl⟩
  obtain ⟨w2, hw2⟩ : ∃ w2, w1.alloc (.cells #[.int .i64 c, .int .i64 a] 50) = w2 := ⟨_, rfl⟩
  have hal2 : Below w1.heap.size w1 w2 := by rw [← hw2]; exact (Below.refl _ _).alloc (Nat.le_refl _) _
  have FQ := Lib.hid (show FaultAt w2 q c a by rw [← hw2, ← hq]; exact FaultAt.new w1 _ _)
  have F2 := Lib.hid (F1.out.ext hal2)
  have B2 := Lib.hid (B1.out.trans (hal2.mono B1.out.size))
  have BX2 := Lib.hid (BX1.out.ext hal2)
  have HN2 := Lib.hid (HN.out.below (hb1.trans (hal2.mono hb1.size)))
  have HV2 := Lib.hid (HV.out.ext (hb1.trans (hal2.mono hb1.size)))
  have HW2 := Lib.hid hw2
  have HQ := Lib.hid hq
  have hgq : g ≠ q := by have := F1.out.lt; omega
  have hqw : w.heap.size ≤ q := by rw [← hq]; exact B1.out.size
  clear hb1 hc ha hal2 hw2 hq FG BG F1 B1 BX1 HN HV
  obtain ⟨x0, x1, x2, x3⟩ := FQ.out.cells
  obtain ⟨y0, y1, y2, y3⟩ := F2.out.cells
  go_upto_region 2 with fail
  rw [HW2.out, HQ.out]
  by_cases hz : c = 0
  rotate_left
  · have hpos : (0 : Int) < (c : Int) := by omega
    have HY := Lib.hid (tryF_ask (n := n) (l := l.map ruleOf) (w := x) (by rw [HC.out]; exact hz))
    clear hz
    go_wp2_with fail
    go_region
    all_goals go_wp2_with fail
    obtain ⟨s0, s1, s2⟩ := fault_end F2.out c a w.heap.size hgw
    rw [HY.out]
    have hbz : Below w.heap.size w (((w2.setCell ⟨g, 0, none⟩ (.int .i64 c)).setCell ⟨g, 1, none⟩ (.int .i64 a)).drew) := (B2.out.trans s2).drew
    have hNz : RNetAt (((w2.setCell ⟨g, 0, none⟩ (.int .i64 c)).setCell ⟨g, 1, none⟩ (.int .i64 a)).drew) B m n vL vO := (HN2.out.under (D := w.heap.size) s2 hmw HLw.out HOw.out).below (below_drewN _ _ 1)
    refine bodyPost_ret (v := .tuple #[.slice none 0 0, .slice none 0 0, .agg #[.int .i64 c, .int .i64 a]]) ?_ rfl ⟨_, _, [], by unfold erA; rw [HC.out, HA.out], FOwn.nil _ _, TOwn.nil _ _, ⟨rfl, Nat.zero_le _⟩, ⟨_, _, hNz⟩, Keeps.of hbz hBw, fun _ _ => hbz⟩
    simp [results, Tryz.results14, go_sem, s0, s1]
  obtain rfl : c = 0 := hz
  have HAS := Lib.hid (askE_zero HC.out)
  have hok := askE_want HC.out
  have hwe : waysEr (l.map ruleOf) (bl x.url) = ⟨0, none⟩ := by unfold waysEr; rw [if_pos HAS.out.1, hok.url]
  have ha1 : a = -1 := by rw [← HA.out, askE_from HAS.out.1]; rfl
  subst ha1
  have HTA := Lib.hid (tryF_from (n := n) HC.out)
  have HSH := Lib.hid (waysOut_short (l := l.map ruleOf) hok.url)
  have HNE := Lib.hid (waysOut_ne (l.map ruleOf) (bl x.url))
  have C := refWaysOf_any v l x.url w2 hl HS.out HX.out.url HV2.out
  unfold RWPost at C
  rw [hwe] at C
  have HCC := Lib.hid C
  obtain ⟨c0, c1, c2, c3, c4⟩ := BX2.out.cells
  rw [show ((0 : Nat) : Int) = 0 from rfl] at x0
  clear C hok hwe HV2
  go_wp2_with fail
  refine HCC.out.mono ?_
  clear HCC c0 c1 c2 c3 c4 x0 x1 x2 x3 y0 y1 y2 y3
  rintro e w3 ⟨ov, xs, rfl, HR, HM, hxl, hb3⟩
  rw [show erA (⟨0, none⟩ : Er) = #[.int .i64 0, .int .i64 (-1)] from rfl]
  obtain ⟨p, hp⟩ : ∃ p, w3.heap.size = p := ⟨_, rfl⟩
  obtain ⟨w4, hw4⟩ : ∃ w4, w3.alloc (.cells #[.int .i64 0, .int .i64 (-1)] 50) = w4 := ⟨_, rfl⟩
  have hal4 : Below w3.heap.size w3 w4 := by rw [← hw4]; exact (Below.refl _ _).alloc (Nat.le_refl _) _
  have hb34 := hb3.trans (hal4.mono hb3.size)
  have HMX : Hid (xs.map bl = waysOut (l.map ruleOf) (bl x.url)) := HM.out.trans (if_pos trivial)
  have B4 := Lib.hid (B2.out.trans (hb34.mono B2.out.size))
  have BX4 := Lib.hid (BX2.out.ext hb34)
  have HN4 := Lib.hid (HN2.out.below hb34)
  have FQ4 := Lib.hid (FQ.out.ext hb34)
  have F4 := Lib.hid (F2.out.ext hb34)
  have HR4 := Lib.hid (owns_below HR.out hal4)
  have hxne : xs ≠ [] := fun e0 => HNE.out (by rw [← HMX.out, e0]; rfl)
  obtain ⟨D, hD⟩ : ∃ D, w4.heap.size = D := ⟨_, rfl⟩
  have hwD : w.heap.size ≤ D := by rw [← hD]; exact B4.out.size
  have hgD : g < D := by rw [← hD]; exact F4.out.lt
  have hqD : q < D := by rw [← hD]; exact FQ4.out.lt
  have hpD : px < D := by rw [← hD]; exact BX4.out.lt
  have hmD : m < D := Nat.lt_of_lt_of_le hmw hwD
  have HLD : Hid (∀ k, vL.ownBlock = some k → k < D) := fun k hk => Nat.lt_of_lt_of_le (HLw.out k hk) hwD
  have HOD : Hid (∀ k, vO.ownBlock = some k → k < D) := fun k hk => Nat.lt_of_lt_of_le (HOw.out k hk) hwD
  have hrow : Row encStr 1 w4 ov xs := row_of_flat HR4.out
  obtain ⟨cb, cap, rfl, hcD, h1, HWA⟩ : ∃ cb cap, ov = .slice (some ⟨cb, 0, none⟩) xs.length cap ∧ cb < D ∧ (xs.length ≤ cap ∧ cap ≤ maxLen) ∧ Hid (WaysIn w4 cb 0 xs) := by
    rcases HR4.out.2 with ⟨_, e0⟩ | ⟨cb, cap, cur, e1, _, hcb, hn, hcm, _⟩
    · exact absurd (List.eq_nil_of_length_eq_zero e0) hxne
    · rcases hrow.one with ⟨_, e0⟩ | ⟨c', off', cap', e2, r1, r2, r3, r4⟩
      · exact absurd e0 hxne
      · rw [e1] at e2
        injection e2 with e3 _ e5
        injection e3 with e3
        injection e3 with e6 e7 _
        subst e6 e7 e5
        exact ⟨cb, cap, e1, by rw [← hD]; exact r3, ⟨r1, r2⟩, ⟨⟨cur, hcb⟩, r4⟩⟩
  have HU : Hid (∀ i, (hi : i < xs.length) → xs[i].size ≤ 200) := fun i hi => by
    rw [← bl_length]
    exact HSH.out _ (by rw [← HMX.out]; exact List.mem_map.2 ⟨_, List.getElem_mem hi, rfl⟩)
  have hD2 : D ≤ w4.heap.size := Nat.le_of_eq hD.symm
  have K4 : Hid (Keeps RNetRow B w w4) := Keeps.of B4.out hBw
  have HW4 := Lib.hid hw4
  have HP := Lib.hid hp
  obtain ⟨M, hm⟩ : ∃ M, xs.length = M := ⟨_, rfl⟩
  have HMM := Lib.hid hm
  have HAX : Hid (tryF n (l.map ruleOf) x = (⟨(tryGo x n (xs.map bl) [] 0).1, none⟩, (tryGo x n (xs.map bl) [] 0).2)) := by show _ = _; rw [HMX.out]; exact HTA.out
  obtain ⟨h11, h12⟩ := h1
  rw [hm] at h11 hxl ⊢
  clear hb3 hal4 hb34 HR HR4 HM hxne hrow HMX HNE HSH hD hm HTA FQ F2 BX2 HN2 hw4 hp HAS
  go_upto_region 5 with fail
  rw [HW4.out, HP.out]
  go_wp2_with fail
  go_loopw [12, 13, 14] (fun lv la vi wr => ∃ (k last : Nat) (nk : NetB) (zs : List ByteArray), vi = .int .i64 k ∧ k ≤ M ∧ zs.length = k ∧ last ≤ 13 ∧ la = .int .i64 last ∧ D ≤ wr.heap.size ∧ nk.calls ≤ n.calls + k ∧ nk.off = n.off ∧ Hid (NetOk nk) ∧ Hid (tryGo x n (xs.map bl) [] 0 = tryGo x nk ((xs.map bl).drop k) (zs.map bl) last) ∧ Hid (RNetAt wr B m nk vL vO) ∧ Hid (TOwn wr D lv zs) ∧ Hid (WaysIn wr cb 0 xs) ∧ Hid (WBox wr px x) ∧ Hid (FaultAt wr q 0 (-1)) ∧ Hid (FaultAt wr g 0 0) ∧ Hid (Keeps RNetRow B w wr)) (fun _ _ i _ => M - (intOf i).toNat)
  case atStart => exact ⟨0, 0, n, [], rfl, Nat.zero_le _, rfl, Nat.zero_le _, rfl, hD2, Nat.le_refl _, rfl, HOK, rfl, HN4, TOwn.nil _ _, HWA, BX4, FQ4, F4, K4⟩
  case round =>
    clear HN4 HWA BX4 FQ4 F4 K4 hD2
    obtain ⟨k, last, nk, zs, rfl, hk, hzl, hla, rfl, hDr, hcl2, hoff, HOK, HT, HN, HO, HWA, BX, FQ, FG, K⟩ := hrel
    obtain ⟨lo, lc, hlv⟩ := HO.out.shape
    rw [hzl] at hlv
    subst hlv
    by_cases hlt : k < M
    · have hkx : k < xs.length := by rw [HMM.out]; exact hlt
      have hus := HU.out k hkx
      have HDR := Lib.hid (drop_bl xs k hkx)
      obtain ⟨u, hu⟩ : ∃ u, xs[k] = u := ⟨_, rfl⟩
      have q0 : wr.cell? ⟨cb, k, none⟩ = some (.string u) := by have := HWA.out.2 k hkx; rw [hu, Nat.zero_add] at this; exact this
      have HUE := Lib.hid hu
      rw [hu] at HDR hus
      have hBr : B ≤ wr.heap.size := Nat.le_trans hBw (Nat.le_trans hwD hDr)
      have C := refGet_at B m vL vO nk u wr HN.out HOK.out (by rw [hoff]; exact ho) (by omega) (by omega) hBr
      have HTO := Lib.hid (fun he => (tryGo_ok (w := x) (n := nk) (u := bl u) (us := (xs.map bl).drop (k + 1)) (lines := zs.map bl) (last := last) he))
      have HTN := Lib.hid (fun he => (tryGo_no (w := x) (n := nk) (u := bl u) (us := (xs.map bl).drop (k + 1)) (lines := zs.map bl) (last := last) he))
      have HT2 : Hid (tryGo x n (xs.map bl) [] 0 = tryGo x nk (bl u :: (xs.map bl).drop (k + 1)) (zs.map bl) last) := by show _ = _; rw [HT.out, HDR.out]
      rw [wayOne_bl] at HTO HTN
      have hwb : wayB nk u x = if (getN nk u).2.1 ≠ 0 then ((getN nk u).2.1, [], (getN nk u).2.2) else ((rightW x ⟨(getN nk u).1.toArray⟩).1, (rightW x ⟨(getN nk u).1.toArray⟩).2, (getN nk u).2.2) := rfl
      have hgl := getN_le nk u
      have hlen := getN_len (u := u) HOK.out
      have HOKN := Lib.hid (getN_ok (u := u) HOK.out)
      have hoffn := getN_off nk u
      have hcaln := getN_calls nk u
      obtain ⟨gg, hgg⟩ : ∃ gg, getN nk u = gg := ⟨_, rfl⟩
      rw [hgg] at hwb C hgl hlen HOKN hoffn hcaln
      obtain ⟨s, gc, rn⟩ := gg
      unfold RGetPostA at C
      dsimp only at hwb C hgl hlen HOKN hoffn hcaln
      have HCG := Lib.hid C
      have HWB := Lib.hid hwb
      obtain ⟨b0, b1, b2, b3⟩ := FQ.out.cells
      clear C hgg HDR HT hwb hu HOK b2 b3
      go_wp2_with fail
      refine HCG.out.mono ?_
      clear HCG
      rintro e w5 ⟨sx, rfl, HSX, HN5, HK5⟩
      have HN5h := Lib.hid HN5
      have HWA5 := Lib.hid (HWA.out.keeps HK5 kr_str)
      have BX5 := Lib.hid (BX.out.keep HK5 kr_want)
      have FQ5 : Hid (FaultAt w5 q 0 (-1)) := HK5.keep q _ FQ.out (kr_fault _ _)
      have FG5 : Hid (FaultAt w5 g 0 0) := HK5.keep g _ FG.out (kr_fault _ _)
      have HO5 := Lib.hid (HO.out.keeps HK5 kr_str)
      have K5 := Lib.hid (K.out.trans HK5)
      have hD5 : D ≤ w5.heap.size := Nat.le_trans hDr HK5.below.size
      clear HN HWA BX FQ FG HO K HN5 HK5 q0 b0 b1
      cases gc with
      | succ rc =>
        have hway : wayB nk u x = (rc + 1, [], rn) := by rw [HWB.out, if_pos (Nat.succ_ne_zero _)]
        have HF : Hid (tryGo x n (xs.map bl) [] 0 = tryGo x rn ((xs.map bl).drop (k + 1)) (zs.map bl ++ [badLine (bl u) (rc + 1)]) (rc + 1)) := by
          show _ = _
          have h9 := HTN.out
          rw [hway] at h9
          exact HT2.out.trans (h9 (Nat.succ_ne_zero _))
        have hle : rc + 1 ≤ 13 := hgl
        clear HTO HTN HT2 HWB HSX hway hlen hgl
        obtain ⟨w6, hw6⟩ : ∃ w6, w6 = w5 := ⟨_, rfl⟩
        subst hw6
        have HWA6 := HWA5
        have BX6 := BX5
        have FQ6 := FQ5
        have FG6 := FG5
        have HO6 := HO5
        have K6 := K5
        have HN6 := HN5h
        have hD6 := hD5
        clear HWA5 BX5 FQ5 FG5 HO5 K5 HN5h hD5
        rw [hoff] at hoffn
        have hc1 : rc + 1 ≤ 13 := hle
        have hk5 : k ≤ 100000 := by omega
        have q0 : w6.cell? ⟨cb, k, none⟩ = some (.string u) := by have := HWA6.out.2 k hkx; rw [HUE.out, Nat.zero_add] at this; exact this
        have hus2 := hus
        have KS : Hid (∀ W, Below D w6 W → W.cell? ⟨cb, k, none⟩ = some (.string u)) := fun W hW => (hW.cell (p := ⟨cb, k, none⟩) hcD).trans q0
        have hd6 : Below D w6 w6.drew := (below_drewN _ w6 1)
        have hO6d : ∀ W, Below w6.drew.heap.size w6.drew W → Hid (W.ownsRow D 9 1 (.slice lo k lc) k (zs.map Value.string)) := fun W hW => by
          have h9 := HO6.out
          unfold TOwn at h9
          rw [hzl] at h9
          exact owns_below (owns_below h9 (below_drewN _ w6 1)) hW
        have HO6d := Lib.hid hO6d
        have hD6d : D ≤ w6.drew.heap.size := hD6
        have hne0 : (((rc + 1 : Nat) : Int) == 0) = false := by rw [beq_eq_false_iff_ne]; omega
        have CT : Hid (∀ W, Calls Tryz.prog 45 #[.int .i64 ((rc + 1 : Nat) : Int)] W fun e w' => (∃ s : ByteArray, e = .returned (.string s) ∧ Hid (bl s = errTx (rc + 1)) ∧ s.size ≤ 20) ∧ Below W.heap.size W w') := fun W => refErrorText_any (rc + 1) (Nat.le_add_left 1 rc) hc1 W
        generalize hnn : ((rc + 1 : Nat) : Int) = nn at CT hne0 ⊢
        have HNN := Lib.hid hnn
        clear hnn
        have hcat : ¬ (9223372036854775807 < u.size + 1) := by omega
        clear hO6d
        clear hla
        go_wp2_with fail
        go_region_held3 (fun W : World => W.cell? ⟨cb, k, none⟩ = some (.string u)) (first | go_keep | exact KS.out _ hb7D | exact KS.out _ hb8D)
          (first
            | (go_at_call 45; refine (CT.out _).mono ?_; rintro e w7 ⟨⟨s7, rfl, HT7, hs7⟩, hb7⟩; have hb7D := hd6.trans (hb7.mono hD6d); have HO7 := HO6d.out w7 hb7; have hD7 := Nat.le_trans hD6d hb7.size; have hcat2 : ¬ (9223372036854775807 < u.size + 1 + s7.size) := (by omega))
            | (refine step_append_text (by rfl) _ _ (by rfl) D _ zs k hzl (by rfl) (World.ownsRow.alloc HO7.out _) ((u ++ ({ data := #[32] } : ByteArray)) ++ s7) w7.heap.size (by rfl) (text_new w7 _) hk5 (size_new hD7 _) ?_; intro v8 w8 HO8 HK8; have hb8D := hb7D.trans (((Below.refl _ _).alloc hD7 _).trans HK8.out.below))
            | fail)
        all_goals
          have HN8 := Lib.hid (HN6.out.under hb8D hmD HLD.out HOD.out)
          have HWA8 : Hid (WaysIn w8 cb 0 xs) := HWA6.out.same (hb8D.block cb hcD)
          have BX8 := Lib.hid (BX6.out.under hb8D hpD)
          have FQ8 := Lib.hid (FQ6.out.under hb8D hqD)
          have FG8 := Lib.hid (FG6.out.under hb8D hgD)
          have K8 := Lib.hid (K6.out.fresh (hb8D.mono hwD) hBw)
          have hD8 : D ≤ w8.heap.size := below_size hb8D hD6
          have HT8 : Hid (tryGo x n (xs.map bl) [] 0 = tryGo x rn ((xs.map bl).drop (k + 1)) ((zs ++ [(u ++ ⟨#[32]⟩) ++ s7]).map bl) (rc + 1)) := by
            show _ = _
            rw [HF.out, List.map_append]
            show _ = tryGo _ _ _ (_ ++ [bl _]) _
            rw [show bl ((u ++ ⟨#[32]⟩) ++ s7) = badLine (bl u) (rc + 1) by rw [app_bl u s7 [32], HT7.out]; rfl]
          clear hb7 hb7D hb8D HK8 HO7 hd6 q0 KS HO6d HT7 HF HN6 HWA6 BX6 FQ6 FG6 K6 HO6
          go_wp2_with fail
          go_roundw
          case rel => exact ⟨k + 1, rc + 1, rn, _, by go_num, by omega, by rw [List.length_append, hzl]; rfl, hle, by rw [HNN.out], hD8, by omega, hoffn, HOKN, HT8, HN8, HO8, HWA8, BX8, FQ8, FG8, K8⟩
          case measure => simp [intOf]; omega
      | zero =>
        obtain rfl : sx = ⟨s.toArray⟩ := bl_eq (by rw [HSX.out]; rfl)
        have hway : wayB nk u x = ((rightW x ⟨s.toArray⟩).1, (rightW x ⟨s.toArray⟩).2, rn) := by rw [HWB.out, if_neg (by omega)]
        obtain ⟨c0, c1, c2, c3, c4⟩ := BX5.out.cells
        have C := refRightWant_any x ⟨s.toArray⟩ w5 HX.out.name (by have := HX.out.url; omega) (by rw [← bl_length]; show s.length ≤ _; omega)
        have hrl := rightW_le x ⟨s.toArray⟩
        obtain ⟨rr, hrr⟩ : ∃ rr, rightW x ⟨s.toArray⟩ = rr := ⟨_, rfl⟩
        rw [hrr] at C hway hrl
        obtain ⟨rc, rf⟩ := rr
        unfold RWOpenPost at C
        dsimp only at C hway hrl
        have HCR := Lib.hid C
        clear C hrr HWB HSX hlen hgl
        rw [show ((0 : Nat) : Int) = 0 from rfl]
        go_wp2_with fail
        refine HCR.out.mono ?_
        clear HCR c0 c1 c2 c3 c4
        rintro e w6 ⟨⟨v6, rfl, HG6⟩, hb6⟩
        have HN6 := Lib.hid (HN5h.out.below hb6)
        have HWA6 : Hid (WaysIn w6 cb 0 xs) := HWA5.out.same (hb6.block cb (Nat.lt_of_lt_of_le hcD hD5))
        have BX6 := Lib.hid (BX5.out.ext hb6)
        have FQ6 := Lib.hid (FQ5.out.ext hb6)
        have FG6 := Lib.hid (FG5.out.ext hb6)
        have HO6 := Lib.hid (HO5.out.ext hb6)
        have K6 := Lib.hid (K5.out.fresh (hb6.mono (Nat.le_trans hwD hD5)) hBw)
        have hD6 : D ≤ w6.heap.size := Nat.le_trans hD5 hb6.size
        have hD5w := Nat.le_trans hwD hD5
        clear HN5h HWA5 BX5 FQ5 FG5 HO5 K5 hb6
        cases rc with
        | succ rc =>
          have HF : Hid (tryGo x n (xs.map bl) [] 0 = tryGo x rn ((xs.map bl).drop (k + 1)) (zs.map bl ++ [badLine (bl u) (rc + 1)]) (rc + 1)) := by
            show _ = _
            have h9 := HTN.out
            rw [hway] at h9
            exact HT2.out.trans (h9 (Nat.succ_ne_zero _))
          have hle : rc + 1 ≤ 13 := hrl
          clear HTO HTN HT2 hway hrl HG6
          rw [hoff] at hoffn
          have hc1 : rc + 1 ≤ 13 := hle
          have hk5 : k ≤ 100000 := by omega
          have q0 : w6.cell? ⟨cb, k, none⟩ = some (.string u) := by have := HWA6.out.2 k hkx; rw [HUE.out, Nat.zero_add] at this; exact this
          have hus2 := hus
          have KS : Hid (∀ W, Below D w6 W → W.cell? ⟨cb, k, none⟩ = some (.string u)) := fun W hW => (hW.cell (p := ⟨cb, k, none⟩) hcD).trans q0
          have hd6 : Below D w6 w6.drew := (below_drewN _ w6 1)
          have hO6d : ∀ W, Below w6.drew.heap.size w6.drew W → Hid (W.ownsRow D 9 1 (.slice lo k lc) k (zs.map Value.string)) := fun W hW => by
            have h9 := HO6.out
            unfold TOwn at h9
            rw [hzl] at h9
            exact owns_below (owns_below h9 (below_drewN _ w6 1)) hW
          have HO6d := Lib.hid hO6d
          have hD6d : D ≤ w6.drew.heap.size := hD6
          have hne0 : (((rc + 1 : Nat) : Int) == 0) = false := by rw [beq_eq_false_iff_ne]; omega
          have CT : Hid (∀ W, Calls Tryz.prog 45 #[.int .i64 ((rc + 1 : Nat) : Int)] W fun e w' => (∃ s : ByteArray, e = .returned (.string s) ∧ Hid (bl s = errTx (rc + 1)) ∧ s.size ≤ 20) ∧ Below W.heap.size W w') := fun W => refErrorText_any (rc + 1) (Nat.le_add_left 1 rc) hc1 W
          generalize hnn : ((rc + 1 : Nat) : Int) = nn at CT hne0 ⊢
          have HNN := Lib.hid hnn
          clear hnn
          have hcat : ¬ (9223372036854775807 < u.size + 1) := by omega
          clear hO6d
          clear hla
          go_wp2_with fail
          go_region_held3 (fun W : World => W.cell? ⟨cb, k, none⟩ = some (.string u)) (first | go_keep | exact KS.out _ hb7D | exact KS.out _ hb8D)
            (first
              | (go_at_call 45; refine (CT.out _).mono ?_; rintro e w7 ⟨⟨s7, rfl, HT7, hs7⟩, hb7⟩; have hb7D := hd6.trans (hb7.mono hD6d); have HO7 := HO6d.out w7 hb7; have hD7 := Nat.le_trans hD6d hb7.size; have hcat2 : ¬ (9223372036854775807 < u.size + 1 + s7.size) := (by omega))
              | (refine step_append_text (by rfl) _ _ (by rfl) D _ zs k hzl (by rfl) (World.ownsRow.alloc HO7.out _) ((u ++ ({ data := #[32] } : ByteArray)) ++ s7) w7.heap.size (by rfl) (text_new w7 _) hk5 (size_new hD7 _) ?_; intro v8 w8 HO8 HK8; have hb8D := hb7D.trans (((Below.refl _ _).alloc hD7 _).trans HK8.out.below))
              | fail)
          all_goals
            have HN8 := Lib.hid (HN6.out.under hb8D hmD HLD.out HOD.out)
            have HWA8 : Hid (WaysIn w8 cb 0 xs) := HWA6.out.same (hb8D.block cb hcD)
            have BX8 := Lib.hid (BX6.out.under hb8D hpD)
            have FQ8 := Lib.hid (FQ6.out.under hb8D hqD)
            have FG8 := Lib.hid (FG6.out.under hb8D hgD)
            have K8 := Lib.hid (K6.out.fresh (hb8D.mono hwD) hBw)
            have hD8 : D ≤ w8.heap.size := below_size hb8D hD6
            have HT8 : Hid (tryGo x n (xs.map bl) [] 0 = tryGo x rn ((xs.map bl).drop (k + 1)) ((zs ++ [(u ++ ⟨#[32]⟩) ++ s7]).map bl) (rc + 1)) := by
              show _ = _
              rw [HF.out, List.map_append]
              show _ = tryGo _ _ _ (_ ++ [bl _]) _
              rw [show bl ((u ++ ⟨#[32]⟩) ++ s7) = badLine (bl u) (rc + 1) by rw [app_bl u s7 [32], HT7.out]; rfl]
            clear hb7 hb7D hb8D HK8 HO7 hd6 q0 KS HO6d HT7 HF HN6 HWA6 BX6 FQ6 FG6 K6 HO6
            go_wp2_with fail
            go_roundw
            case rel => exact ⟨k + 1, rc + 1, rn, _, by go_num, by omega, by rw [List.length_append, hzl]; rfl, hle, by rw [HNN.out], hD8, by omega, hoffn, HOKN, HT8, HN8, HO8, HWA8, BX8, FQ8, FG8, K8⟩
            case measure => simp [intOf]; omega
        | zero =>
          have HF : Hid (tryGo x n (xs.map bl) [] 0 = (0, rf, zs.map bl ++ [okLine (bl u)], rn)) := by
            show _ = _
            have h9 := HTO.out
            rw [hway] at h9
            exact HT2.out.trans (h9 rfl)
          have HFO := Lib.hid (FOwn.low (HG6.out.2.2 rfl) hD5w)
          have q0 : w6.cell? ⟨cb, k, none⟩ = some (.string u) := by have := HWA6.out.2 k hkx; rw [HUE.out, Nat.zero_add] at this; exact this
          have KS : Hid (∀ W, Below D w6 W → W.cell? ⟨cb, k, none⟩ = some (.string u) ∧ W.cell? ⟨q, 0, none⟩ = some (.int .i64 0) ∧ W.cell? ⟨q, 1, none⟩ = some (.int .i64 (-1))) := fun W hW => ⟨(hW.cell (p := ⟨cb, k, none⟩) hcD).trans q0, (FQ6.out.under hW hqD).cells.1, (FQ6.out.under hW hqD).cells.2.1⟩
          have KG : Hid (∀ W, Below D w6 W → W.cell? ⟨g, 0, none⟩ = some (.int .i64 0) ∧ W.cell? ⟨g, 1, none⟩ = some (.int .i64 0) ∧ W.frozen? ⟨g, 0, none⟩ = false ∧ W.frozen? ⟨g, 1, none⟩ = false) := fun W hW => (FG6.out.under hW hgD).cells
          have hd6 : Below D w6 w6.drew := (below_drewN _ w6 1)
          have HO6d : Hid (w6.drew.ownsRow D 9 1 (.slice lo k lc) k (zs.map Value.string)) := by
            have h9 := HO6.out
            unfold TOwn at h9
            rw [hzl] at h9
            exact owns_below h9 (below_drewN _ w6 1)
          have hD6d : D ≤ w6.drew.heap.size := hD6
          clear HTO HTN HT2 hway hrl HG6
          obtain ⟨_, x0, x1⟩ := KS.out w6 (Below.refl _ _)
          rw [show ((0 : Nat) : Int) = 0 from rfl]
          have hcat : ¬ (9223372036854775807 < u.size + 3) := by omega
          have hk5 : k ≤ 100000 := by omega
          have hcg : cb ≠ g := by
            rintro rfl
            obtain ⟨cs, h9⟩ := HWA6.out.1
            have h10 := FG6.out
            unfold FaultAt at h10
            rw [h10] at h9
            injection h9 with h9
            injection h9 with _ h9 _
            exact absurd h9 (by decide)
          have KS3 : Hid (∀ W, Below D w6 W → ((W.setCell ⟨g, 0, none⟩ (.int .i64 0)).setCell ⟨g, 1, none⟩ (.int .i64 (-1))).cell? ⟨cb, k, none⟩ = some (.string u) ∧ ((W.setCell ⟨g, 0, none⟩ (.int .i64 0)).setCell ⟨g, 1, none⟩ (.int .i64 (-1))).cell? ⟨q, 0, none⟩ = some (.int .i64 0) ∧ ((W.setCell ⟨g, 0, none⟩ (.int .i64 0)).setCell ⟨g, 1, none⟩ (.int .i64 (-1))).cell? ⟨q, 1, none⟩ = some (.int .i64 (-1))) := fun W hW => by
            obtain ⟨h1, h2, h3⟩ := KS.out W hW
            exact ⟨by rw [store_cell _ _ _ _ _ _ hcg]; exact h1, by rw [store_cell _ _ _ _ _ _ (Ne.symm hgq)]; exact h2, by rw [store_cell _ _ _ _ _ _ (Ne.symm hgq)]; exact h3⟩
          go_wp2_with fail
          go_region_held3 (fun W : World => W.cell? ⟨cb, k, none⟩ = some (.string u) ∧ W.cell? ⟨q, 0, none⟩ = some (.int .i64 0) ∧ W.cell? ⟨q, 1, none⟩ = some (.int .i64 (-1))) (first | exact KS3.out _ hb8D | exact KS.out _ hb8D | go_keep)
            (first
              | (refine step_append_text (by rfl) _ _ (by rfl) D _ zs k hzl (by rfl) (World.ownsRow.alloc HO6d.out _) (u ++ ({ data := #[32, 111, 107] } : ByteArray)) w6.drew.heap.size (by rfl) (text_newD w6 _) hk5 (size_new hD6 _) ?_; intro v8 w8 HO8 HK8; have hb8D := hd6.trans (((Below.refl _ _).alloc hD6d _).trans HK8.out.below); obtain ⟨g0, g1, g2, g3⟩ := KG.out _ hb8D)
              | fail)
          all_goals
            have FG8 := FG6.out.under hb8D hgD
            obtain ⟨s0, s1, s2⟩ := fault_end FG8 0 (-1) w.heap.size hgw
            have HN8 := (((HN6.out.under hb8D hmD HLD.out HOD.out).under (D := w.heap.size) s2 hmw HLw.out HOw.out))
            have HO8z : TOwn ((w8.setCell ⟨g, 0, none⟩ (.int .i64 0)).setCell ⟨g, 1, none⟩ (.int .i64 (-1))) w.heap.size v8 (zs ++ [u ++ ⟨#[32, 111, 107]⟩]) := (HO8.out.low hwD).keeps (fault_keeps FG8 _ _) (fun cs ⟨_, _, h⟩ => by injection h with _ h _; exact absurd h (by decide))
            have HKA : Keeps LRow D w6 w8 := (Keeps.of (((Below.refl _ _).alloc (Nat.le_refl _) _).drew) hD6).trans HK8.out
            have HF8 : FOwn w8 w.heap.size v6 rf := HKA.owns HFO.out kl_file
            have HF8z : FOwn ((w8.setCell ⟨g, 0, none⟩ (.int .i64 0)).setCell ⟨g, 1, none⟩ (.int .i64 (-1))) w.heap.size v6 rf := (fault_keeps FG8 _ _).owns HF8 (fun cs ⟨_, _, h⟩ => by injection h with _ h _; exact absurd h (by decide))
            have K8 := (K6.out.fresh (hb8D.mono hwD) hBw).fresh s2 hBw
            have hl8 : (zs ++ [u ++ ⟨#[32, 111, 107]⟩]).map bl = zs.map bl ++ [okLine (bl u)] := by rw [List.map_append]; show _ ++ [bl _] = _; rw [bl_append]; rfl
            have hl9 : (zs ++ [u ++ ⟨#[32, 111, 107]⟩]).length ≤ 20 := by rw [List.length_append]; simp; omega
            clear q0 KS KG KS3 x0 x1 g0 g1 g2 g3 HO8 HK8 hb8D HKA
            go_wp2_with fail
            rw [HAX.out, HF.out]
            refine bodyPost_ret (v := .tuple #[v6, v8, .agg #[.int .i64 0, .int .i64 (-1)]]) ?_ rfl ⟨v6, v8, _, rfl, HF8z, HO8z, ⟨hl8, hl9⟩, ⟨_, _, HN8⟩, K8, fun _ h => by cases h⟩
            simp [results, Tryz.results14, go_sem, s0, s1]
    · obtain rfl : k = M := by omega
      have HF : Hid (tryGo x n (xs.map bl) [] 0 = (last, [], zs.map bl, nk)) := by
        show _ = _
        rw [HT.out, List.drop_of_length_le (by rw [List.length_map, HMM.out]; exact Nat.le_refl _)]
        rfl
      clear HT
      go_wp2_with fail
      refine (refBare_any (last : Int) wr).mono ?_
      rintro e w6 ⟨rfl, hb6⟩
      have FG6 := FG.out.ext hb6
      obtain ⟨y0, y1, y2, y3⟩ := FG6.cells
      obtain ⟨s0, s1, s2⟩ := fault_end FG6 last (-1) w.heap.size hgw
      have HN8 := (HN.out.below hb6).under (D := w.heap.size) s2 hmw HLw.out HOw.out
      have HO8z := ((HO.out.ext hb6).low hwD).keeps (fault_keeps FG6 (.int .i64 last) (.int .i64 (-1))) (fun cs ⟨_, _, h⟩ => by injection h with _ h _; exact absurd h (by decide))
      have K8 := (K.out.fresh (hb6.mono (Nat.le_trans hwD hDr)) hBw).fresh s2 hBw
      have hl9 : zs.length ≤ 20 := by omega
      have S0 := Lib.hid s0
      have S1 := Lib.hid s1
      clear s0 s1 s2
      go_wp2_with fail
      rw [HAX.out, HF.out]
      refine bodyPost_ret (v := .tuple #[.slice none 0 0, .slice lo k lc, .agg #[.int .i64 last, .int .i64 (-1)]]) ?_ rfl ⟨_, _, zs, rfl, FOwn.nil _ _, HO8z, ⟨rfl, hl9⟩, ⟨_, _, HN8⟩, K8, fun _ h => by cases h⟩
      simp [results, Tryz.results14, go_sem, S0.out, S1.out]
end Go.Proofs.YtomceddfbfpjjaaGreatDoor

namespace Go.Proofs.YtomceddfbfpjjaaGreatDoor
open Go Go.RowKit Go.Maps

theorem has_get {h : HeldB} {n : Int} : (ixOf n h.sums).isSome = (getL h.trees n).isSome := by
  rw [Bool.eq_iff_iff]
  constructor
  · intro hs
    obtain ⟨l, hl⟩ := getL_mem (ixOf_isSome.1 hs)
    rw [hl]; rfl
  · intro hs
    obtain ⟨t, ht⟩ := Option.isSome_iff_exists.1 hs
    exact ixOf_isSome.2 (List.mem_map.2 ⟨_, getL_some ht, rfl⟩)
/-- Where a held tree lies. -/
theorem RHeldIs.tree {W0 w : World} {B b : Nat} {h : HeldB} (hi : RHeldIs W0 w B b h) (ok : HeldOk h) {n : Int} {t : List FileB} (hg : getL h.trees n = some t) :
    ∃ (k g cap : Nat) (tv : Value), ixOf n h.sums = some k ∧ k < h.trees.length ∧ w.cell? ⟨b, 1, none⟩ = some (.slice (some ⟨g, 0, none⟩) h.trees.length cap) ∧ w.cell? ⟨g, k * 2 + 1, none⟩ = some tv ∧ TreeV W0 w B tv t := by
  have hs : (ixOf n h.sums).isSome = true := by rw [has_get, hg]; rfl
  obtain ⟨k, hk⟩ := Option.isSome_iff_exists.1 hs
  obtain ⟨lv, vs, hA, hV⟩ := hi
  obtain ⟨hk1, hk2, hk3⟩ := ixOf_some hk
  have hkt : k < h.trees.length := by unfold HeldB.sums at hk1; rwa [List.length_map] at hk1
  have hkv : k < vs.length := by rw [hV.len]; exact hkt
  obtain ⟨ao, cap, rfl, _, _, _, H3⟩ := trees_parts hA.row
  obtain ⟨g, rfl, _, hcell⟩ := H3 k hkv
  obtain ⟨_, c1, _⟩ := rheld_ready hA.blk
  obtain ⟨h1, h2⟩ := hV.at k hkv hkt
  refine ⟨k, g, cap, vs[k].2, hk, hkt, by rw [c1, hV.len], (hcell k hkv).2, ?_⟩
  have e : h.trees[k].2 = t := by
    have hn : h.trees[k].1 = n := by
      rw [← hk2]; simp [HeldB.sums]
    have := getL_at hkt ok.nodup
    rw [hn] at this
    rw [hg] at this
    exact (Option.some.inj this).symm
  rw [← e]; exact h2

end Go.Proofs.YtomceddfbfpjjaaGreatDoor

namespace Go.Proofs.YtomceddfbfpjjaaGreatDoor
open Go Go.RowKit

theorem kf_map (es : Array MapEntry) (c : Nat) : ¬ FaultRow (.map es c) := fun ⟨_, _, h⟩ => by cases h
theorem kf_net (cs : Array Value) (fz : Nat × Nat) : ¬ FaultRow (.cells cs 76 fz) := fun ⟨_, _, h⟩ => by injection h with _ h _; exact absurd h (by decide)
theorem kf_held (cs : Array Value) (fz : Nat × Nat) : ¬ FaultRow (.cells cs 79 fz) := fun ⟨_, _, h⟩ => by injection h with _ h _; exact absurd h (by decide)
theorem kf_int (cs : Array Value) : ¬ FaultRow (.cells cs 3 (0, 0)) := fun ⟨_, _, h⟩ => by injection h with _ h _; exact absurd h (by decide)
theorem kf_str (cs : Array Value) : ¬ FaultRow (.cells cs 9 (0, 0)) := fun ⟨_, _, h⟩ => by injection h with _ h _; exact absurd h (by decide)
theorem kf_file (cs : Array Value) : ¬ FaultRow (.cells cs 68 (0, 0)) := fun ⟨_, _, h⟩ => by injection h with _ h _; exact absurd h (by decide)
theorem kf_rnet (cs : Array Value) : ¬ FaultRow (.cells cs 37 (0, 0)) := fun ⟨_, _, h⟩ => by injection h with _ h _; exact absurd h (by decide)
theorem kf_site (cs : Array Value) : ¬ FaultRow (.cells cs 122 (0, 0)) := fun ⟨_, _, h⟩ => by injection h with _ h _; exact absurd h (by decide)
theorem RNetIs.faulted {w : World} {B m g : Nat} {n : NetB} {c a : Int} (h : RNetIs w B m n) (hg : FaultAt w g c a) (x y : Value) : RNetIs ((w.setCell ⟨g, 0, none⟩ x).setCell ⟨g, 1, none⟩ y) B m n := h.keeps (fault_keeps hg x y) kf_rnet kf_site kf_str
/-- First the net is turned, then the held, then a fault. -/
def RFrame (Bm Bk : Nat) (w w' : World) : Prop := ∃ w5 w6, Keeps RNetRow Bm w w5 ∧ Keeps RHeldRow Bk w5 w6 ∧ Keeps FaultRow Bk w6 w' ∧ Below w.heap.size w6 w'
theorem RFrame.below {Bm Bk B : Nat} {w w' : World} (h : RFrame Bm Bk w w') (h1 : B ≤ Bm) (h2 : B ≤ Bk) : Below B w w' := by
  obtain ⟨w5, w6, k1, k2, k3, _⟩ := h
  exact ((k1.below.mono h1).trans (k2.below.mono h2)).trans (k3.below.mono h2)
theorem RFrame.net {Bm Bk B b t : Nat} {w w' : World} {n : NetB} (h : RFrame Bm Bk w w') (hn : NetIs w B b n t) : NetIs w' B b n t := by
  obtain ⟨w5, w6, k1, k2, k3, _⟩ := h
  exact ((hn.keepR k1).keepQ k2).keeps k3 kf_map kf_net
theorem RFrame.held {Bm Bk B b : Nat} {w w' : World} {hd : HeldB} (h : RFrame Bm Bk w w') (hn : HeldIs w B b hd) : HeldIs w' B b hd := by
  obtain ⟨w5, w6, k1, k2, k3, _⟩ := h
  exact ((hn.keepR k1).keepQ k2).keeps k3 kf_map kf_held kf_int kf_file
theorem RFrame.files {Bm Bk base : Nat} {w w' : World} {v : Value} {l : List FileB} (h : RFrame Bm Bk w w') (hn : FOwn w base v l) : FOwn w' base v l := by
  obtain ⟨w5, w6, k1, k2, k3, _⟩ := h
  exact k3.owns (k2.owns (k1.owns hn kr_file) kq_file) kf_file
theorem RFrame.lines {Bm Bk base : Nat} {w w' : World} {v : Value} {l : List ByteArray} (h : RFrame Bm Bk w w') (hn : TOwn w base v l) : TOwn w' base v l := by
  obtain ⟨w5, w6, k1, k2, k3, _⟩ := h
  exact k3.owns (k2.owns (k1.owns hn kr_str) kq_str) kf_str
theorem kq_fault (cs : Array Value) (fz : Nat × Nat) : ¬ RHeldRow (.cells cs 50 fz) := fun ⟨_, _, h⟩ => by injection h with _ h _; exact absurd h (by decide)
theorem RFrame.fault {Bm Bk q : Nat} {w w' : World} {c a : Int} (h : RFrame Bm Bk w w') (hq : FaultAt w q c a) : FaultAt w' q c a := by
  obtain ⟨w5, w6, k1, k2, k3, k4⟩ := h
  have h5 : FaultAt w5 q c a := k1.keep q _ hq (kr_fault _ _)
  have h6 : FaultAt w6 q c a := k2.keep q _ h5 (kq_fault _ _)
  exact (k4.block q hq.lt).trans h6
/-- What the reference's FetchOf hands back, and leaves. -/
def RFetchPost (W0 : World) (Bm m Bk kb : Nat) (r : Er × List FileB × List (List UInt8) × HeldB × NetB) (w : World) (e : Ending) (w' : World) : Prop :=
  ∃ fv lv zs, e = .returned (.tuple #[fv, lv, .agg (erA r.1)]) ∧ Hid (FArg w' fv r.2.1) ∧ Hid (TOwn w' w.heap.size lv zs) ∧ Hid (zs.map bl = r.2.2.1 ∧ zs.length ≤ 20) ∧ Hid (RHeldIs W0 w' Bk kb r.2.2.2.1) ∧ Hid (RNetIs w' Bm m r.2.2.2.2) ∧ Hid (RFrame Bm Bk w w') ∧ Hid (∀ a, r.1.at? = some a → Below w.heap.size w w')

set_option maxHeartbeats 8000000 in
set_option maxRecDepth 100000 in
theorem refFetch_any {W0 : World} (Bm m Bk kb : Nat) (n : NetB) (hd : HeldB) (v : Value) (l : List RuleB) (x : WantB) (w : World) (hW : Below W0.heap.size W0 w) (hWB : W0.heap.size ≤ Bm) (h : RNetIs w Bm m n) (hi : RHeldIs W0 w Bk kb hd) (hdok : HeldOk hd) (hok : NetOk n) (ho : n.off.length ≤ 1000000) (hcl : n.calls ≤ 100000000) (hl : l.length ≤ 1000) (hs : ∀ r ∈ l, Small r) (hx : AskW x) (hv : RulesRow w v l) (hBB : Bm ≤ Bk) (hBw : Bk ≤ w.heap.size) :
    Calls Tryz.prog 19 #[.pointer (some ⟨kb, 0, none⟩), .pointer (some ⟨m, 0, none⟩), v, .agg #[.string x.name, .string x.url, .string x.kind, .int .i64 x.strip, .int .i64 x.sum]] w (RFetchPost W0 Bm m Bk kb (fetchF hd n (l.map ruleOf) x) w) := by
  have hBn : Bm ≤ w.heap.size := Nat.le_trans hBB hBw
  obtain ⟨px, hpx⟩ : ∃ px, w.heap.size = px := ⟨_, rfl⟩
  obtain ⟨wx, hwx⟩ : ∃ wx, w.alloc (.cells #[.string x.name, .string x.url, .string x.kind, .int .i64 x.strip, .int .i64 x.sum] 25) = wx := ⟨_, rfl⟩
  have hbx : Below w.heap.size w wx := by rw [← hwx]; exact (Below.refl _ _).alloc (Nat.le_refl _) _
  have hBX : WBox wx px x := by rw [← hwx, ← hpx]; exact WBox.new w x
  have hxs : wx.heap.size = px + 1 := by rw [← hwx, ← hpx, World.size_alloc]
  obtain ⟨g, hg⟩ : ∃ g, px + 1 = g := ⟨_, rfl⟩
  obtain ⟨wg, hwg⟩ : ∃ wg, wx.alloc (.cells #[.int .i64 0, .int .i64 0] 50) = wg := ⟨_, rfl⟩
  have hal : Below wx.heap.size wx wg := by rw [← hwg]; exact (Below.refl _ _).alloc (Nat.le_refl _) _
  have FG := Lib.hid (show FaultAt wg g 0 0 by rw [← hwg, ← hg, ← hxs]; exact FaultAt.new wx 0 0)
  have hgw : w.heap.size ≤ g := by rw [← hg, ← hxs]; exact hbx.size
  have BG := Lib.hid (hbx.trans (hal.mono hbx.size))
  have BXG := Lib.hid (hBX.ext hal)
  have HWX := Lib.hid hwx
  have HPX := Lib.hid hpx
  have HWG := Lib.hid hwg
  have HG := Lib.hid hg
  have HX := Lib.hid hx
  have HS := Lib.hid hs
  have HV := Lib.hid (hv.ext BG.out)
  have HN := Lib.hid (h.below BG.out)
  have HH := Lib.hid (hi.below BG.out)
  have HOK := Lib.hid hok
  have HHO := Lib.hid hdok
  have HW0 := Lib.hid hW
  have hn40 : hd.trees.length ≤ 1000 := by have h1 := hdok.few; have h2 := hdok.len; omega
  have C := Lib.hid (refAsk_any v l x wg hl hs hx (hv.ext BG.out))
  obtain ⟨c0, c1, c2, c3, c4⟩ := BXG.out.cells
  clear hpx hwx hbx hBX hg hwg hal hv hx hs hxs hok h hi hdok hW
  go_enter Tryz.func19, Tryz.ntmps19
  go_upto_region 1 with fail
  rw [HWX.out, HPX.out, HWG.out, HG.out]
  go_wp2_with fail
  refine C.out.mono ?_
  clear C c0 c1 c2 c3 c4
  intro e w1 hpost
  unfold RAskPost at hpost
  obtain ⟨rfl, hb1⟩ := hpost
  have F1 := Lib.hid (FG.out.ext hb1)
  have B1 := Lib.hid (BG.out.trans (hb1.mono BG.out.size))
  have BX1 := Lib.hid (BXG.out.ext hb1)
  obtain ⟨c, hc⟩ : ∃ c, (askE (l.map ruleOf) x).code = c := ⟨_, rfl⟩
  obtain ⟨a, ha⟩ : ∃ a : Int, (askE (l.map ruleOf) x).at?.getD (-1) = a := ⟨_, rfl⟩
  have HC := Lib.hid hc
  have HA := Lib.hid ha
  rw [show erA (askE (l.map ruleOf) x) = #[.int .i64 c, .int .i64 a] by unfold erA; rw [hc, ha]]
  obtain ⟨q, hq⟩ : ∃ q, w1.heap.size = q := ⟨_, rfl⟩
  obtain ⟨w2, hw2⟩ : ∃ w2, w1.alloc (.cells #[.int .i64 c, .int .i64 a] 50) = w2 := ⟨_, rfl⟩
  have hal2 : Below w1.heap.size w1 w2 := by rw [← hw2]; exact (Below.refl _ _).alloc (Nat.le_refl _) _
  have hb12 := hb1.trans (hal2.mono hb1.size)
  have FQ := Lib.hid (show FaultAt w2 q c a by rw [← hw2, ← hq]; exact FaultAt.new w1 _ _)
  have F2 := Lib.hid (F1.out.ext hal2)
  have B2 := Lib.hid (B1.out.trans (hal2.mono B1.out.size))
  have BX2 := Lib.hid (BX1.out.ext hal2)
  have HN2 := Lib.hid (HN.out.below hb12)
  have HH2 := Lib.hid (HH.out.below hb12)
  have HV2 := Lib.hid (HV.out.ext hb12)
  have HW2 := Lib.hid hw2
  have HQ := Lib.hid hq
  have hgq : g ≠ q := by have := F1.out.lt; omega
  have hqw : w.heap.size ≤ q := by rw [← hq]; exact B1.out.size
  have HW02 := Lib.hid (HW0.out.trans (B2.out.mono HW0.out.size))
  clear hb1 hb12 hc ha hal2 hw2 hq FG BG F1 B1 BX1 HN HV HH HW0
  obtain ⟨x0, x1, x2, x3⟩ := FQ.out.cells
  obtain ⟨y0, y1, y2, y3⟩ := F2.out.cells
  go_upto_region 2 with fail
  rw [HW2.out, HQ.out]
  by_cases hz : c = 0
  rotate_left
  · have hpos : (0 : Int) < (c : Int) := by omega
    have HY := Lib.hid (fetchF_ask (h := hd) (n := n) (l := l.map ruleOf) (w := x) (by rw [HC.out]; exact hz))
    clear hz
    go_wp2_with fail
    go_region
    all_goals go_wp2_with fail
    obtain ⟨s0, s1, s2⟩ := fault_end F2.out c a w.heap.size hgw
    rw [HY.out]
    have hbz : Below w.heap.size w (((w2.setCell ⟨g, 0, none⟩ (.int .i64 c)).setCell ⟨g, 1, none⟩ (.int .i64 a)).drew) := (B2.out.trans s2).drew
    have hNz : RNetIs (((w2.setCell ⟨g, 0, none⟩ (.int .i64 c)).setCell ⟨g, 1, none⟩ (.int .i64 a)).drew) Bm m n := (HN2.out.faulted F2.out (.int .i64 (c : Int)) (.int .i64 a)).below (below_drewN _ _ 1)
    have hHz : RHeldIs W0 (((w2.setCell ⟨g, 0, none⟩ (.int .i64 c)).setCell ⟨g, 1, none⟩ (.int .i64 a)).drew) Bk kb hd := (HH2.out.faulted F2.out (.int .i64 (c : Int)) (.int .i64 a)).below (below_drewN _ _ 1)
    refine bodyPost_ret (v := .tuple #[.slice none 0 0, .slice none 0 0, .agg #[.int .i64 c, .int .i64 a]]) ?_ rfl ⟨_, _, [], by unfold erA; rw [HC.out, HA.out], FArg.nil _, TOwn.nil _ _, ⟨rfl, Nat.zero_le _⟩, hHz, hNz, ⟨_, _, Keeps.of hbz hBn, Keeps.refl _ _ _, Keeps.refl _ _ _, Below.refl _ _⟩, fun _ _ => hbz⟩
    simp [results, Tryz.results19, go_sem, s0, s1]
  obtain rfl : c = 0 := hz
  have HAS := Lib.hid (askE_zero HC.out)
  have hwok := askE_want HC.out
  have ha1 : a = -1 := by rw [← HA.out, askE_from HAS.out.1]; rfl
  subst ha1
  obtain ⟨d0, d1, d2, d3, d4⟩ := BX2.out.cells
  have C := Lib.hid (refHFind_any W0 Bk kb hd x.sum w2 HH2.out hn40)
  rw [show ((0 : Nat) : Int) = 0 from rfl] at x0
  clear hwok
  cases hg2 : getL hd.trees x.sum with
  | some tr =>
    have HY := Lib.hid (fetchF_held (n := n) HC.out hg2)
    obtain ⟨j, gt, cap2, tv, hix, hjl, ht1, ht2, htv⟩ := HH2.out.tree HHO.out hg2
    rw [hix] at C
    have HTV := Lib.hid (htv.arg HW02.out)
    have hjn : (0 : Int) ≤ (j : Int) := by omega
    have hjl2 : (j : Int) < (hd.trees.length : Int) := by omega
    have hkbl : kb < w2.heap.size := World.block_lt_of_cell? _ _ ht1
    have hgtl : gt < w2.heap.size := World.block_lt_of_cell? _ _ ht2
    obtain ⟨tso, tc, htvs⟩ : ∃ tso tc, tv = .slice tso tr.length tc := by
      obtain ⟨⟨ao, cap, h1, _⟩, _⟩ := HTV.out
      exact ⟨ao, cap, h1⟩
    subst htvs
    have KS : Hid (∀ W, Below w2.heap.size w2 W → W.cell? ⟨kb, 1, none⟩ = some (.slice (some ⟨gt, 0, none⟩) hd.trees.length cap2) ∧ W.cell? ⟨gt, j * 2 + 1, none⟩ = some (.slice tso tr.length tc) ∧ W.cell? ⟨q, 0, none⟩ = some (.int .i64 0) ∧ W.cell? ⟨q, 1, none⟩ = some (.int .i64 (-1))) := fun W hW => ⟨(hW.cell (p := ⟨kb, 1, none⟩) hkbl).trans ht1, (hW.cell (p := ⟨gt, j * 2 + 1, none⟩) hgtl).trans ht2, (FQ.out.ext hW).cells.1, (FQ.out.ext hW).cells.2.1⟩
    have KG : Hid (∀ W, Below w2.heap.size w2 W → W.cell? ⟨g, 0, none⟩ = some (.int .i64 0) ∧ W.cell? ⟨g, 1, none⟩ = some (.int .i64 0) ∧ W.frozen? ⟨g, 0, none⟩ = false ∧ W.frozen? ⟨g, 1, none⟩ = false) := fun W hW => (F2.out.ext hW).cells
    have hgk : kb ≠ g := by
      rintro rfl
      obtain ⟨nn, hn⟩ := F2.out.cell_int 1 _ ht1
      cases hn
    have hgg : gt ≠ g := by
      rintro rfl
      obtain ⟨nn, hn⟩ := F2.out.cell_int _ _ ht2
      cases hn
    have KS3 : Hid (∀ W, Below w2.heap.size w2 W → ((W.setCell ⟨g, 0, none⟩ (.int .i64 0)).setCell ⟨g, 1, none⟩ (.int .i64 (-1))).cell? ⟨kb, 1, none⟩ = some (.slice (some ⟨gt, 0, none⟩) hd.trees.length cap2) ∧ ((W.setCell ⟨g, 0, none⟩ (.int .i64 0)).setCell ⟨g, 1, none⟩ (.int .i64 (-1))).cell? ⟨gt, j * 2 + 1, none⟩ = some (.slice tso tr.length tc) ∧ ((W.setCell ⟨g, 0, none⟩ (.int .i64 0)).setCell ⟨g, 1, none⟩ (.int .i64 (-1))).cell? ⟨q, 0, none⟩ = some (.int .i64 0) ∧ ((W.setCell ⟨g, 0, none⟩ (.int .i64 0)).setCell ⟨g, 1, none⟩ (.int .i64 (-1))).cell? ⟨q, 1, none⟩ = some (.int .i64 (-1))) := fun W hW => by
      obtain ⟨h1, h2, h3, h4⟩ := KS.out W hW
      exact ⟨by rw [store_cell _ _ _ _ _ _ hgk]; exact h1, by rw [store_cell _ _ _ _ _ _ hgg]; exact h2, by rw [store_cell _ _ _ _ _ _ (Ne.symm hgq)]; exact h3, by rw [store_cell _ _ _ _ _ _ (Ne.symm hgq)]; exact h4⟩
    have hbA : Below w2.heap.size w2 ((w2.alloc (.cells #[.string ⟨#[104, 101, 108, 100]⟩] 9)).drew) := ((Below.refl _ _).alloc (Nat.le_refl _) _).drew
    have HBA := Lib.hid hbA
    have HTA : Hid (TOwn ((w2.alloc (.cells #[.string ⟨#[104, 101, 108, 100]⟩] 9)).drew) w.heap.size (.slice (some ⟨w2.heap.size, 0, none⟩) 1 1) [⟨#[104, 101, 108, 100]⟩]) := TOwn.ext (show TOwn _ _ _ _ from World.ownsRow_lit w2 #[.string ⟨#[104, 101, 108, 100]⟩] 1 B2.out.size (by decide) rfl) (below_drewN _ _ 1)
    have n1 : w2.heap.size ≠ g := World.new_ne w2 ⟨g, 0, none⟩ y0
    have n2 : g ≠ w2.heap.size := Ne.symm n1
    have hbA2 : Below w2.heap.size w2 (w2.alloc (.cells #[.string ⟨#[104, 101, 108, 100]⟩] 9)) := (Below.refl _ _).alloc (Nat.le_refl _) _
    obtain ⟨u0, u1, u2, u3⟩ := KG.out _ hbA2
    have HBA2 := Lib.hid hbA2
    clear hbA2
    have n3 := World.new_ne w2 ⟨q, 0, none⟩ x0
    have n4 := World.new_ne w2 ⟨kb, 1, none⟩ ht1
    have n5 := World.new_ne w2 ⟨gt, j * 2 + 1, none⟩ ht2
    clear hg2 hix htv hbA
    go_wp2_with fail
    refine C.out.mono ?_
    clear C
    rintro e w3 ⟨rfl, rfl⟩
    rw [show ixInt (some j) = (j : Int) from rfl]
    go_wp2_with fail
    go_region_held3 (fun W : World => W.cell? ⟨kb, 1, none⟩ = some (.slice (some ⟨gt, 0, none⟩) hd.trees.length cap2) ∧ W.cell? ⟨gt, j * 2 + 1, none⟩ = some (.slice tso tr.length tc) ∧ W.cell? ⟨q, 0, none⟩ = some (.int .i64 0) ∧ W.cell? ⟨q, 1, none⟩ = some (.int .i64 (-1))) (first | exact KS3.out _ HBA2.out | exact KS.out _ HBA2.out | go_keep) (fail)
    all_goals
      have hA3 := F2.out.ext HBA2.out
      obtain ⟨s0, s1, s2⟩ := fault_end hA3 0 (-1) w.heap.size hgw
      have hNz := ((HN2.out.below HBA2.out).faulted hA3 (.int .i64 0) (.int .i64 (-1))).below (below_drewN _ _ 1)
      have hHz := ((HH2.out.below HBA2.out).faulted hA3 (.int .i64 0) (.int .i64 (-1))).below (below_drewN _ _ 1)
      have hTz := ((show TOwn (w3.alloc (.cells #[.string ⟨#[104, 101, 108, 100]⟩] 9)) w.heap.size (.slice (some ⟨w3.heap.size, 0, none⟩) 1 1) [⟨#[104, 101, 108, 100]⟩] from World.ownsRow_lit (e := 9) (size := 1) w3 #[.string ⟨#[104, 101, 108, 100]⟩] 1 B2.out.size (by decide) rfl).keeps (fault_keeps hA3 (.int .i64 0) (.int .i64 (-1))) kf_str).ext (below_drewN _ _ 1)
      have hVz := ((HTV.out.ext HBA2.out).store hA3 (.int .i64 0) (.int .i64 (-1))).ext (below_drewN _ _ 1)
      have hbz := ((B2.out.trans (HBA2.out.mono B2.out.size)).trans s2).drew
      go_wp2_with fail
      rw [HY.out]
      refine bodyPost_ret (v := .tuple #[.slice tso tr.length tc, .slice (some ⟨w3.heap.size, 0, none⟩) 1 1, .agg #[.int .i64 0, .int .i64 (-1)]]) ?_ rfl ⟨_, _, [⟨#[104, 101, 108, 100]⟩], rfl, hVz, hTz, ⟨rfl, by decide⟩, hHz, hNz, ⟨_, _, Keeps.of hbz hBn, Keeps.refl _ _ _, Keeps.refl _ _ _, Below.refl _ _⟩, fun _ h => by cases h⟩
      simp [results, Tryz.results19, go_sem, s0, s1]
  | none =>
    have HY := Lib.hid (fetchF_from (n := n) HC.out hg2)
    have hix : ixOf x.sum hd.sums = none := by
      cases h9 : ixOf x.sum hd.sums with
      | none => rfl
      | some j => have := @has_get hd x.sum; rw [h9, hg2] at this; cases this
    rw [hix] at C
    have C2 := refTry_any Bm m n v l x w2 HN2.out HOK.out ho hcl hl HS.out HX.out HV2.out (Nat.le_trans hBn B2.out.size)
    have HFI := Lib.hid (@tryF_fine n (l.map ruleOf) x)
    obtain ⟨r, hr⟩ : ∃ r, tryF n (l.map ruleOf) x = r := ⟨_, rfl⟩
    rw [hr] at C2 HY HFI
    obtain ⟨⟨c2, at2⟩, fs, ls, n'⟩ := r
    unfold RTryPost at C2
    dsimp only at C2 HY HFI
    obtain ⟨a2, ha2⟩ : ∃ a : Int, at2.getD (-1) = a := ⟨_, rfl⟩
    rw [show erA (⟨c2, at2⟩ : Er) = #[.int .i64 c2, .int .i64 a2] by rw [← ha2]; rfl] at C2
    have HC2 := Lib.hid C2
    have HA2 := Lib.hid ha2
    have hneg : ¬ ((-1 : Int) ≥ 0) := by omega
    have hat : at2 = none := by
      have h9 := tryF_from (n := n) HC.out
      rw [hr] at h9
      injection h9 with h9 _
      injection h9
    clear C2 hg2 hix hr ha2
    go_wp2_with fail
    refine C.out.mono ?_
    clear C
    rintro e w3 ⟨rfl, rfl⟩
    rw [show ixInt none = -1 from rfl]
    go_wp2_with fail
    refine HC2.out.mono ?_
    clear HC2 x0 x1 x2 x3 y0 y1 y2 y3 d0 d1 d2 d3 d4
    rintro e w4 ⟨fv, lv, zs, rfl, HF, HT, HZ, HN, HK, _⟩
    have FQ4 : Hid (FaultAt w4 q 0 (-1)) := HK.out.keep q _ FQ.out (kr_fault _ _)
    have F4 : Hid (FaultAt w4 g 0 0) := HK.out.keep g _ F2.out (kr_fault _ _)
    have HH4 := Lib.hid (HH2.out.keepR HK.out)
    have K4 := Lib.hid ((Keeps.of (K := RNetRow) B2.out hBn).trans HK.out)
    have hwq := fault_end FQ4.out c2 a2 w.heap.size hqw
    have FQ5 := FQ4.out.store (c2 : Int) a2
    have F5 := F4.out.other hgq (.int .i64 (c2 : Int)) (.int .i64 a2)
    have HH5 := HH4.out.faulted FQ4.out (.int .i64 (c2 : Int)) (.int .i64 a2)
    have HN5 := HN.out.faulted FQ4.out (.int .i64 (c2 : Int)) (.int .i64 a2)
    have HF5 : FOwn _ w.heap.size fv fs := (fault_keeps FQ4.out (.int .i64 (c2 : Int)) (.int .i64 a2)).owns (FOwn.low HF.out B2.out.size) kf_file
    have HT5 := (HT.out.low B2.out.size).keeps (fault_keeps FQ4.out (.int .i64 (c2 : Int)) (.int .i64 a2)) kf_str
    have K5 := K4.out.fresh hwq.2.2 hBn
    have hw05 := HW02.out.trans ((HK.out.below.mono hWB).trans (fault_end FQ4.out c2 a2 W0.heap.size (Nat.le_trans hWB (Nat.le_trans hBn hqw))).2.2)
    have hsz : w4.heap.size ≤ ((w4.setCell ⟨q, 0, none⟩ (.int .i64 (c2 : Int))).setCell ⟨q, 1, none⟩ (.int .i64 a2)).heap.size := by simp
    have hBk5 : Bk ≤ w4.heap.size := Nat.le_trans hBw K4.out.below.size
    obtain ⟨v0, v1, v2, v3⟩ := FQ4.out.cells
    obtain ⟨w5, hw5⟩ : ∃ w5, (w4.setCell ⟨q, 0, none⟩ (.int .i64 (c2 : Int))).setCell ⟨q, 1, none⟩ (.int .i64 a2) = w5 := ⟨_, rfl⟩
    rw [hw5] at FQ5 F5 HH5 HN5 HF5 HT5 K5 hsz hw05
    have HW5 := Lib.hid hw5
    have HFQ5 := Lib.hid FQ5
    have HF5g := Lib.hid F5
    have HHH5 := Lib.hid HH5
    have HNN5 := Lib.hid HN5
    have HFF5 := Lib.hid HF5
    have HTT5 := Lib.hid HT5
    have HK5 := Lib.hid K5
    have hB5 : Bk ≤ w5.heap.size := Nat.le_trans hBk5 hsz
    have HW05 := Lib.hid hw05
    clear FQ4 F4 HH4 K4 hwq FQ5 F5 HH5 HN5 HF5 HT5 K5 hsz hw5 hw05 HN HF HT HK FQ F2 HH2 HN2 HV2 hBk5
    go_upto_region 8 with fail
    rw [HW5.out]
    clear v0 v1 v2 v3
    obtain ⟨t0, t1, t2, t3⟩ := HFQ5.out.cells
    obtain ⟨r0, r1, r2, r3⟩ := HF5g.out.cells
    by_cases hz : c2 = 0
    · obtain ⟨he, hte, _, _⟩ := HFI.out hz
      have hrl := right_len hte
      have HY2 : Hid (fetchF hd n (l.map ruleOf) x = (⟨0, none⟩, fs, ls, (putH hd fs).2.2, n')) := by show _ = _; rw [HY.out, if_pos hz, he]
      have ha3 : a2 = -1 := by
        rw [← HA2.out]
        injection he with _ he2
        rw [he2]; rfl
      subst ha3
      subst hz
      have C := Lib.hid (refHPut_any (W0 := W0) Bk kb hd fv fs w5 HW05.out (.inr (FOwn.low (base := w.heap.size) HFF5.out hBw)) hrl.1 hrl.2 HHH5.out hn40 hB5)
      rw [show ((0 : Nat) : Int) = 0 from rfl] at t0
      clear he hte hrl HY HFI
      go_wp2_with fail
      refine C.out.mono ?_
      clear C t0 t1 t2 t3 r0 r1 r2 r3
      intro e w6 hpost
      unfold RHPutPost at hpost
      obtain ⟨rfl, hi6, hk6, _⟩ := hpost
      have HH6 := Lib.hid hi6
      have HK6 := Lib.hid hk6
      have HN6 := Lib.hid (HNN5.out.keepQ hk6)
      have F6 : FaultAt w6 g 0 0 := hk6.keep g _ HF5g.out (kq_fault _ _)
      have FQ6 : FaultAt w6 q 0 (-1) := hk6.keep q _ HFQ5.out (kq_fault _ _)
      have HFF6 := Lib.hid (hk6.owns HFF5.out kq_file)
      have HTT6 := Lib.hid (hk6.owns HTT5.out kq_str)
      obtain ⟨t0, t1, t2, t3⟩ := FQ6.cells
      obtain ⟨r0, r1, r2, r3⟩ := F6.cells
      have HF6 := Lib.hid F6
      clear hi6 hk6 F6 FQ6
      go_wp2_with fail
      go_region
      all_goals
        obtain ⟨s0, s1, s2⟩ := fault_end HF6.out 0 (-1) w.heap.size hgw
        have hNz := (HN6.out.faulted HF6.out (.int .i64 0) (.int .i64 (-1))).below (below_drewN _ _ 1)
        have hHz := (HH6.out.faulted HF6.out (.int .i64 0) (.int .i64 (-1))).below (below_drewN _ _ 1)
        have hTz := (TOwn.keeps (zs := zs) HTT6.out (fault_keeps HF6.out (.int .i64 0) (.int .i64 (-1))) kf_str).ext (below_drewN _ _ 1)
        have hVz := ((FOwn.arg (base := w.heap.size) (l := fs) HFF6.out).store HF6.out (.int .i64 0) (.int .i64 (-1))).ext (below_drewN _ _ 1)
        have hgB : Bk ≤ g := Nat.le_trans hBw hgw
        have hKz : Keeps FaultRow Bk w6 (((w6.setCell ⟨g, 0, none⟩ (.int .i64 0)).setCell ⟨g, 1, none⟩ (.int .i64 (-1))).drew) := (⟨(fault_keeps HF6.out (.int .i64 0) (.int .i64 (-1))).below.mono hgB, (fault_keeps HF6.out (.int .i64 0) (.int .i64 (-1))).keep⟩ : Keeps FaultRow Bk w6 _).trans (Keeps.of (below_drewN _ _ 1) (Nat.le_trans hB5 (Nat.le_trans HK6.out.below.size (by simp))))
        go_wp2_with fail
        rw [HY2.out]
        refine bodyPost_ret (v := .tuple #[fv, lv, .agg #[.int .i64 0, .int .i64 (-1)]]) ?_ rfl ⟨_, _, zs, rfl, hVz, hTz, HZ, hHz, hNz, ⟨_, _, HK5.out, HK6.out, hKz, s2.drew⟩, fun _ h => by cases h⟩
        simp [results, Tryz.results19, go_sem, s0, s1]
    · have HY2 : Hid (fetchF hd n (l.map ruleOf) x = (⟨c2, at2⟩, fs, ls, hd, n')) := by show _ = _; rw [HY.out, if_neg hz]
      have hne : ((c2 : Int) == 0) = false := by rw [beq_eq_false_iff_ne]; omega
      clear HY HFI
      go_wp2_with fail
      go_region
      all_goals
        obtain ⟨s0, s1, s2⟩ := fault_end HF5g.out c2 a2 w.heap.size hgw
        have hNz := (HNN5.out.faulted HF5g.out (.int .i64 (c2 : Int)) (.int .i64 a2)).below (below_drewN _ _ 1)
        have hHz := (HHH5.out.faulted HF5g.out (.int .i64 (c2 : Int)) (.int .i64 a2)).below (below_drewN _ _ 1)
        have hTz := (HTT5.out.keeps (fault_keeps HF5g.out (.int .i64 (c2 : Int)) (.int .i64 a2)) kf_str).ext (below_drewN _ _ 1)
        have hVz := ((FOwn.arg (base := w.heap.size) (l := fs) HFF5.out).store HF5g.out (.int .i64 (c2 : Int)) (.int .i64 a2)).ext (below_drewN _ _ 1)
        have hKz := (HK5.out.fresh s2 hBn).trans (Keeps.of (below_drewN _ _ 1) (Nat.le_trans hBB (Nat.le_trans hB5 (by simp))))
        go_wp2_with fail
        rw [HY2.out]
        refine bodyPost_ret (v := .tuple #[fv, lv, .agg #[.int .i64 (c2 : Int), .int .i64 a2]]) ?_ rfl ⟨_, _, zs, by unfold erA; rw [HA2.out], hVz, hTz, HZ, hHz, hNz, ⟨_, _, hKz, Keeps.refl _ _ _, Keeps.refl _ _ _, Below.refl _ _⟩, fun _ h => by rw [hat] at h; cases h⟩
        simp [results, Tryz.results19, go_sem, s0, s1]
end Go.Proofs.YtomceddfbfpjjaaGreatDoor

namespace Go.Proofs.YtomceddfbfpjjaaGreatDoor
open Go Go.RowKit

/-- faulted: an error's number and place. -/
def faultB3 (er : Er) (c a : Int) : Bool := (er.code : Int) == c && ((er.code : Int) == 0 || er.at?.getD (-1) == a)

theorem faulted3_any {E : Nat → Addr} {w : World} {v : Value} {er : Er} (hE : Env E w) (hv : IsErr E w v er) (c a : Int) : Calls Tryz.prog 15 #[v, .agg #[.int .i64 c, .int .i64 a]] w fun e w' =>
    e = .returned (.bool (faultB3 er c a)) ∧ Below w.heap.size w w' := by
  have hc := Lib.hid (code_any (hE.ext ((Below.refl _ _).alloc (Nat.le_refl _) (.cells #[.int .i64 c, .int .i64 a] 50))) (hv.ext ((Below.refl _ _).alloc (Nat.le_refl _) _)))
  have hfin : faultB3 er c a = ((er.code : Int) == c && ((er.code : Int) == 0 || er.at?.getD (-1) == a)) := rfl
  have HF := Lib.hid hfin; clear hfin hE hv
  generalize hk : (er.code : Int) = k at hc HF
  generalize ha : er.at?.getD (-1) = b at hc HF
  clear hk ha
  generalize faultB3 er c a = r at HF ⊢
  cases h1 : (k == c)
  all_goals cases h2 : (k == 0)
  all_goals
    go_enter Tryz.func15, Tryz.ntmps15
    go_wp2_with fail
    refine hc.out.mono ?_
    rintro e w' ⟨rfl, hb⟩
    have hb' : Below w.heap.size w w' := ((Below.refl _ _).alloc (Nat.le_refl _) _).trans (hb.mono (by simp))
    have c0 : w'.cell? ⟨w.heap.size, 0, none⟩ = some (.int .i64 c) := by rw [hb.cell (p := ⟨w.heap.size, 0, none⟩) (by simp)]; simp
    have c1 : w'.cell? ⟨w.heap.size, 1, none⟩ = some (.int .i64 a) := by rw [hb.cell (p := ⟨w.heap.size, 1, none⟩) (by simp)]; simp
    clear hb
    go_wp2_with fail
    go_ret
    exact ⟨by rw [HF.out, h1]; simp [h2], hb'⟩
end Go.Proofs.YtomceddfbfpjjaaGreatDoor

namespace Go.Proofs.YtomceddfbfpjjaaGreatDoor
open Go Go.RowKit

/-- coded: an error's number, without a place. -/
def codedB3 (er : Er) (c : Int) : Bool := (er.code : Int) == c && er.at?.getD (-1) == -1

theorem codedThree_any {E : Nat → Addr} {w : World} {v : Value} {er : Er} (hE : Env E w) (hv : IsErr E w v er) (c : Int) : Calls Tryz.prog 24 #[v, .int .i64 c] w fun e w' =>
    e = .returned (.bool (codedB3 er c)) ∧ Below w.heap.size w w' := by
  have hc := Lib.hid (code_any hE hv)
  have hfin : codedB3 er c = ((er.code : Int) == c && er.at?.getD (-1) == -1) := rfl
  have HF := Lib.hid hfin; clear hfin hE hv
  generalize hk : (er.code : Int) = k at hc HF
  generalize ha : er.at?.getD (-1) = a at hc HF
  clear hk ha
  generalize codedB3 er c = r at HF ⊢
  cases h1 : (k == c)
  · go_enter Tryz.func24, Tryz.ntmps24
    go_wp2_with fail
    refine hc.out.mono ?_
    rintro e w' ⟨rfl, hb⟩
    go_wp2_with fail
    go_ret
    exact ⟨by rw [HF.out, h1]; rfl, hb⟩
  · go_enter Tryz.func24, Tryz.ntmps24
    go_wp2_with fail
    refine hc.out.mono ?_
    rintro e w' ⟨rfl, hb⟩
    go_wp2_with fail
    go_ret
    exact ⟨by rw [HF.out, h1]; simp, hb⟩

theorem isErr_errV3 {E : Nat → Addr} {w : World} {c : Nat} (h : c ≤ 13) : IsErr E w (errV E c) ⟨c, none⟩ := by
  cases c with
  | zero => exact IsErr.nil E w
  | succ k => exact IsErr.base E w k (by omega)
theorem errCoded3 {E : Nat → Addr} {w : World} {c : Nat} (hE : Env E w) (h : c ≤ 13) : Calls Tryz.prog 24 #[errV E c, .int .i64 c] w fun e w' => e = .returned (.bool true) ∧ Below w.heap.size w w' := by
  refine (codedThree_any hE (isErr_errV3 h) c).mono ?_
  rintro e w' ⟨rfl, hb⟩
  refine ⟨?_, hb⟩
  have : codedB3 ⟨c, none⟩ (c : Int) = true := by unfold codedB3; simp
  rw [this]
end Go.Proofs.YtomceddfbfpjjaaGreatDoor
