/- shop.New, Tape, Lock, Held, copied, Rules: contracts. shop.Open: the contract. -/
import Derived.Test.YtcjjbpoaojjojaaGreatDoorJShopTurnsEtc
import Derived.Test.YtcjjbpoaojjojaaGreatDoorJRuleSmallEtc
import Derived.Test.YtcjjbpoaojjojaaGreatDoorJFilesEtc
import Derived.Test.YtcjjbpoaojjojaaGreatDoorJTreesUpEtc
namespace Go.Proofs.YtcjjbpoaojjojaaGreatDoor
open Go Go.RowKit

theorem HeldIs.low {w : World} {B B2 b : Nat} {h : HeldB} (hi : HeldIs w B b h) (hB : B2 ≤ B) : HeldIs w B2 b h := by
  obtain ⟨h0, ov, mb, f, hA⟩ := hi
  refine ⟨h0, ov, mb, f, Nat.le_trans hB hA.hb, Nat.le_trans hB hA.hm, hA.hlt, hA.blk, IOwn.low hA.order hB, hA.map, fun n => ?_⟩
  rcases hA.vals n with h | ⟨l, x, h2, h3, h4⟩
  · exact .inl h
  · exact .inr ⟨l, x, h2, h3, FOwn.low h4 hB⟩
theorem TapeIs.low {w : World} {B B2 b : Nat} {t : TapeS} (h : TapeIs w B b t) (hB : B2 ≤ B) : TapeIs w B2 b t := by
  obtain ⟨⟨q1, v, q2, q3⟩, q4⟩ := h
  refine ⟨⟨Nat.le_trans hB q1, v, q2, ?_⟩, q4⟩
  rcases q3 with h | ⟨g, cap, cur, lo, hi, e, p1, p2⟩
  · exact .inl h
  · exact .inr ⟨g, cap, cur, lo, hi, e, Nat.le_trans hB p1, p2⟩
theorem RulesOwn.low {w : World} {base B : Nat} {v : Value} {l : List RuleB} (h : RulesOwn w base v l) (hB : B ≤ base) : RulesOwn w B v l := by
  obtain ⟨tvs, hl, ho, hr⟩ := h
  refine ⟨tvs, hl, own_mono ho hB, fun j hj => ?_⟩
  obtain ⟨tv, h1, h2⟩ := hr j hj
  exact ⟨tv, h1, own_mono h2 hB⟩
/-- A shop that was opened, beside its net and its tape. -/
theorem AgAt.prog {w : World} {B Bo nb hb tb sb tn : Nat} {rv lv : Value} {rl : List RuleB} {n : NetB} {S : ShopS} {t : TapeS} (h : AgAt w Bo hb sb (.pointer (some ⟨nb, 0, none⟩)) (.pointer (some ⟨tb, 0, none⟩)) rv lv rl S) (hB : B ≤ Bo) (hn : NetIs w B nb n tn) (ht : TapeIs w B tb t) (ha : nb + 2 ≤ hb) : ProgAt w B nb hb tb sb rv lv rl n S t tn :=
  ⟨Nat.le_trans hB h.hsb, h.shop, h.rules.low hB, h.ruled, h.lock.low hB, h.held.low hB, ht, hn, ha⟩

set_option maxRecDepth 100000 in
theorem shopEmpty_any (p q : Option Addr) (w : World) :
    Calls Tryz.prog 33 #[.pointer p, .pointer q] w fun e w' => ∃ hb sb, e = .returned (.pointer (some ⟨sb, 0, none⟩)) ∧ w.heap.size + 1 ≤ hb ∧ Hid (AgAt w' w.heap.size hb sb (.pointer p) (.pointer q) (.slice none 0 0) (.slice none 0 0) [] emptyS) ∧ Below w.heap.size w w' := by
  have C := Lib.hid (heldNew_any 40 w)
  go_enter Tryz.func33, Tryz.ntmps33
  go_wp2_with fail
  refine C.out.mono ?_
  clear C
  rintro e w1 ⟨hb, rfl, hh, hb1⟩
  have hle := hh.le
  have HH := Lib.hid hh
  clear hh
  have hal : Below w1.heap.size w1 (w1.alloc (.cells #[.pointer p, .slice none 0 0, .slice none 0 0, .pointer (some ⟨hb, 0, none⟩), .pointer q] 138)) := (Below.refl _ _).alloc (Nat.le_refl _) _
  have HA : Hid (AgAt (w1.alloc (.cells #[.pointer p, .slice none 0 0, .slice none 0 0, .pointer (some ⟨hb, 0, none⟩), .pointer q] 138)) w.heap.size hb w1.heap.size (.pointer p) (.pointer q) (.slice none 0 0) (.slice none 0 0) [] emptyS) :=
    ⟨hb1.size, heap_alloc_new _ _, RulesOwn.nil _ _, rfl, WOwn.nil _ _, HH.out.below hal⟩
  have hb2 := hb1.trans (hal.mono hb1.size)
  clear hal
  go_wp2_with fail
  go_ret
  exact ⟨_, _, rfl, hle, HA, hb2⟩

set_option maxHeartbeats 1000000 in
set_option maxRecDepth 100000 in
theorem shopNew_any (B nb tn : Nat) (n : NetB) (w : World) (h : NetIs w B nb n tn) (hBw : B ≤ w.heap.size) :
    Calls Tryz.prog 16 #[.pointer (some ⟨nb, 0, none⟩)] w fun e w' => ∃ sb, e = .returned (.tuple #[.pointer (some ⟨sb, 0, none⟩), .nilIface]) ∧ Hid (ProgIs w' B nb sb n emptyS ⟨[], false, -1⟩ tn) ∧ Below w.heap.size w w' := by
  have C := Lib.hid (newDisk_any ⟨#[]⟩ w (Nat.zero_le _))
  have HN := Lib.hid h
  have hnw := h.lt
  clear h
  go_enter Tryz.func16, Tryz.ntmps16
  go_wp2_with fail
  refine C.out.mono ?_
  clear C
  rintro e w1 ⟨tb, rfl, hd, hb1⟩
  have HT : Hid (TapeIs w1 B tb ⟨[], false, -1⟩) := TapeIs.low (B := w.heap.size) ⟨hd, Nat.zero_le _, by show (-1 : Int) ≤ -1 ∧ (-1 : Int) ≤ _; omega⟩ hBw
  have C := Lib.hid (shopEmpty_any (some ⟨nb, 0, none⟩) (some ⟨tb, 0, none⟩) w1)
  clear hd
  go_wp2_with fail
  refine C.out.mono ?_
  clear C
  rintro e w2 ⟨hb, sb, rfl, hle, HA, hb2⟩
  have hs1 := hb1.size
  have HP : Hid (ProgIs w2 B nb sb n emptyS ⟨[], false, -1⟩ tn) :=
    ⟨hb, tb, _, _, _, HA.out.prog (Nat.le_trans hBw hs1) (HN.out.below (hb1.trans (hb2.mono hs1))) (HT.out.below hb2) (by omega)⟩
  have hb3 := hb1.trans (hb2.mono hs1)
  go_wp2_with fail
  go_ret2
  exact ⟨_, rfl, HP, hb3⟩

set_option maxRecDepth 100000 in
theorem shopTape_any {w : World} {B nb hb tb sb tn : Nat} {rv lv : Value} {rl : List RuleB} {n : NetB} {S : ShopS} {t : TapeS} (h : ProgAt w B nb hb tb sb rv lv rl n S t tn) :
    Calls Tryz.prog 19 #[.pointer (some ⟨sb, 0, none⟩)] w fun e w' => e = .returned (.pointer (some ⟨tb, 0, none⟩)) ∧ w = w' := by
  obtain ⟨_, _, _, _, c4⟩ := h.cells
  clear h
  go_enter Tryz.func19, Tryz.ntmps19
  go_wp2_with fail
  go_ret
  exact ⟨rfl, rfl⟩
set_option maxRecDepth 100000 in
theorem shopLock_any {w : World} {B nb hb tb sb tn : Nat} {rv lv : Value} {rl : List RuleB} {n : NetB} {S : ShopS} {t : TapeS} (h : ProgAt w B nb hb tb sb rv lv rl n S t tn) (hl : S.lock.length ≤ 10000) :
    Calls Tryz.prog 28 #[.pointer (some ⟨sb, 0, none⟩)] w fun e w' => (∃ v, e = .returned v ∧ Hid (WOwn w' w.heap.size v S.lock)) ∧ Below w.heap.size w w' := by
  obtain ⟨_, _, c2, _, _⟩ := h.cells
  have C := Lib.hid (cloneWants_any lv S.lock w hl h.lock.arg)
  clear h
  go_enter Tryz.func28, Tryz.ntmps28
  go_wp2_with fail
  refine C.out.mono ?_
  clear C
  rintro e w1 ⟨⟨v, rfl, HV⟩, hb1⟩
  go_wp2_with fail
  go_ret
  exact ⟨⟨_, rfl, HV⟩, hb1⟩
set_option maxRecDepth 100000 in
theorem shopHeld_any {w : World} {B nb hb tb sb tn : Nat} {rv lv : Value} {rl : List RuleB} {n : NetB} {S : ShopS} {t : TapeS} (h : ProgAt w B nb hb tb sb rv lv rl n S t tn) (hBw : B ≤ w.heap.size) :
    Calls Tryz.prog 24 #[.pointer (some ⟨sb, 0, none⟩)] w (HCopyPost B S.held w) := by
  obtain ⟨_, _, _, c3, _⟩ := h.cells
  have C := Lib.hid (heldCopy_any B hb S.held w h.held hBw)
  clear h
  go_enter Tryz.func24, Tryz.ntmps24
  go_wp2_with fail
  refine C.out.mono ?_
  clear C
  rintro e w1 ⟨⟨b, rfl, HV, hle⟩, hb1⟩
  go_wp2_with fail
  go_ret
  exact ⟨⟨_, rfl, HV, hle⟩, hb1⟩

set_option maxHeartbeats 1000000 in
set_option maxRecDepth 100000 in
theorem copied_any (f : ByteArray) (tv : Value) (ts : List ByteArray) (w : World) (hn : ts.length ≤ 1000000) (hv : RowP w tv ts) :
    Calls Tryz.prog 108 #[.agg #[.string f, tv]] w fun e w' => (∃ ov, e = .returned (.agg #[.string f, ov]) ∧ Hid (w'.ownsRow w.heap.size 9 1 ov ts.length (ts.map Value.string))) ∧ Below w.heap.size w w' := by
  obtain ⟨ao, cap, rfl, _⟩ := id hv
  obtain ⟨px, hpx⟩ : ∃ px, w.heap.size = px := ⟨_, rfl⟩
  obtain ⟨wx, hwx⟩ : ∃ wx, w.alloc (.cells #[.string f, .slice ao ts.length cap] 58) = wx := ⟨_, rfl⟩
  have hbx : Below w.heap.size w wx := by rw [← hwx]; exact (Below.refl _ _).alloc (Nat.le_refl _) _
  have hX : wx.heap[px]? = some (.cells #[.string f, .slice ao ts.length cap] 58 (0, 0)) := by rw [← hwx, ← hpx]; exact heap_alloc_new _ _
  have hxs : wx.heap.size = px + 1 := by rw [← hwx, ← hpx, World.size_alloc]
  obtain ⟨pr, hpr⟩ : ∃ pr, px + 1 = pr := ⟨_, rfl⟩
  obtain ⟨wr, hwr⟩ : ∃ wr, wx.alloc (.cells #[.string ⟨#[]⟩, .slice none 0 0] 58) = wr := ⟨_, rfl⟩
  have hal : Below wx.heap.size wx wr := by rw [← hwr]; exact (Below.refl _ _).alloc (Nat.le_refl _) _
  have hR : wr.heap[pr]? = some (.cells #[.string ⟨#[]⟩, .slice none 0 0] 58 (0, 0)) := by rw [← hwr, ← hpr, ← hxs]; exact heap_alloc_new _ _
  have hXr : wr.heap[px]? = some (.cells #[.string f, .slice ao ts.length cap] 58 (0, 0)) := (hal.block px (by omega)).trans hX
  have hbr := hbx.trans (hal.mono hbx.size)
  have C := Lib.hid (cloneStrs_any (.slice ao ts.length cap) ts wr hn (hv.ext hbr))
  have c0 : wr.cell? ⟨px, 0, none⟩ = some (.string f) := by rw [Lib.cell_of_heap hXr]; rfl
  have c1 : wr.cell? ⟨px, 1, none⟩ = some (.slice ao ts.length cap) := by rw [Lib.cell_of_heap hXr]; rfl
  have HX := Lib.hid hXr
  have HR := Lib.hid hR
  have HWX := Lib.hid hwx
  have HPX := Lib.hid hpx
  have HWR := Lib.hid hwr
  have HPR := Lib.hid hpr
  have HBR := Lib.hid hbr
  have hle : w.heap.size ≤ px := by rw [hpx]; exact Nat.le_refl _
  have hlr : w.heap.size ≤ pr := by omega
  have hne : pr ≠ px := by omega
  clear hv hwx hpx hX hxs hwr hpr hal hR hXr hbr hbx
  go_enter Tryz.func108, Tryz.ntmps108
  go_upto_region 1 with fail
  rw [HWX.out, HPX.out, HWR.out, HPR.out]
  go_wp2_with fail
  refine C.out.mono ?_
  clear C c0 c1
  rintro e w1 ⟨⟨ov, rfl, HO⟩, hb1⟩
  obtain ⟨oa, oc, rfl⟩ := row_shape HO.out
  have hX1 : w1.heap[px]? = some (.cells #[.string f, .slice ao ts.length cap] 58 (0, 0)) := (hb1.block px (Array.getElem?_eq_some_iff.1 HX.out).1).trans HX.out
  have hR1 : w1.heap[pr]? = some (.cells #[.string ⟨#[]⟩, .slice none 0 0] 58 (0, 0)) := (hb1.block pr (Array.getElem?_eq_some_iff.1 HR.out).1).trans HR.out
  have f1 : w1.frozen? ⟨px, 1, none⟩ = false := Lib.frozen_of_heap hX1 1
  have e1 : w1.cell? ⟨px, 1, none⟩ = some (.slice ao ts.length cap) := by rw [Lib.cell_of_heap hX1]; rfl
  obtain ⟨w2, hw2⟩ : ∃ w2, w1.setCell ⟨px, 1, none⟩ (.slice oa ts.length oc) = w2 := ⟨_, rfl⟩
  have hX2 : w2.heap[px]? = some (.cells #[.string f, .slice oa ts.length oc] 58 (0, 0)) := by rw [← hw2]; simp [World.setCell, Array.getElem?_modify, hX1]
  have hR2 : w2.heap[pr]? = some (.cells #[.string ⟨#[]⟩, .slice none 0 0] 58 (0, 0)) := by rw [← hw2, Below.heap_setCell _ _ _ _ hne]; exact hR1
  have c0 : w2.cell? ⟨px, 0, none⟩ = some (.string f) := by rw [Lib.cell_of_heap hX2]; rfl
  have c1 : w2.cell? ⟨px, 1, none⟩ = some (.slice oa ts.length oc) := by rw [Lib.cell_of_heap hX2]; rfl
  have d0 : w2.cell? ⟨pr, 0, none⟩ = some (.string ⟨#[]⟩) := by rw [Lib.cell_of_heap hR2]; rfl
  have d1 : w2.cell? ⟨pr, 1, none⟩ = some (.slice none 0 0) := by rw [Lib.cell_of_heap hR2]; rfl
  have g0 : w2.frozen? ⟨pr, 0, none⟩ = false := Lib.frozen_of_heap hR2 0
  have g1 : w2.frozen? ⟨pr, 1, none⟩ = false := Lib.frozen_of_heap hR2 1
  have hR3 : ((w2.setCell ⟨pr, 0, none⟩ (.string f)).setCell ⟨pr, 1, none⟩ (.slice oa ts.length oc)).heap[pr]? = some (.cells #[.string f, .slice oa ts.length oc] 58 (0, 0)) := by simp [World.setCell, Array.getElem?_modify, hR2]
  have S0 : Hid (((w2.setCell ⟨pr, 0, none⟩ (.string f)).setCell ⟨pr, 1, none⟩ (.slice oa ts.length oc)).cell? ⟨pr, 0, none⟩ = some (.string f)) := by show _ = _; rw [Lib.cell_of_heap hR3]; rfl
  have S1 : Hid (((w2.setCell ⟨pr, 0, none⟩ (.string f)).setCell ⟨pr, 1, none⟩ (.slice oa ts.length oc)).cell? ⟨pr, 1, none⟩ = some (.slice oa ts.length oc)) := by show _ = _; rw [Lib.cell_of_heap hR3]; rfl
  have hO2 : w2.ownsRow wr.heap.size 9 1 (.slice oa ts.length oc) ts.length (ts.map Value.string) := by rw [← hw2]; exact HO.out.kept (grownBy_set w1 px 1 _) (own_not HO.out hX1 (by decide))
  have hk3 : Keeps (fun o => ∃ cs fz, o = .cells cs 58 fz) w.heap.size w2 ((w2.setCell ⟨pr, 0, none⟩ (.string f)).setCell ⟨pr, 1, none⟩ (.slice oa ts.length oc)) := by
    have hs2 : w.heap.size ≤ w2.heap.size := by rw [← hw2]; have h1 := HBR.out.size; have h2 := hb1.size; simp [World.setCell]; omega
    have k1 := Keeps.one (K := fun o => ∃ cs fz, o = .cells cs 58 fz) (grown_set w2 pr 0 (.string f)) hlr hs2 hR2 ⟨_, _, rfl⟩
    have hR4 : (w2.setCell ⟨pr, 0, none⟩ (.string f)).heap[pr]? = some (.cells #[.string f, .slice none 0 0] 58 (0, 0)) := by simp [World.setCell, Array.getElem?_modify, hR2]
    exact k1.trans (Keeps.one (grown_set _ pr 1 _) hlr (Nat.le_trans hs2 k1.below.size) hR4 ⟨_, _, rfl⟩)
  have HO3 : Hid (((w2.setCell ⟨pr, 0, none⟩ (.string f)).setCell ⟨pr, 1, none⟩ (.slice oa ts.length oc)).ownsRow w.heap.size 9 1 (.slice oa ts.length oc) ts.length (ts.map Value.string)) :=
    own_mono (hk3.owns hO2 (fun cs ⟨_, _, h⟩ => by injection h with _ h _; exact absurd h (by decide))) HBR.out.size
  have hb2 : Below w.heap.size w w2 := by rw [← hw2]; exact (HBR.out.trans (hb1.mono HBR.out.size)).setCell (p := ⟨px, 1, none⟩) hle _
  have HB3 := Lib.hid (hb2.trans hk3.below)
  have HW2 := Lib.hid hw2
  clear hw2 hX1 hR1 hX2 hR2 hR3 hO2 hk3 hb2 hb1 HO
  go_upto_region 2 with fail
  rw [HW2.out]
  clear e1 f1
  go_wp2_with fail
  refine bodyPost_ret (v := .agg #[.string f, .slice oa ts.length oc]) ?_ rfl ⟨⟨_, rfl, HO3⟩, HB3.out⟩
  simp [results, Tryz.results108, go_sem, S0.out, S1.out]
end Go.Proofs.YtcjjbpoaojjojaaGreatDoor

namespace Go.Proofs.YtcjjbpoaojjojaaGreatDoor
open Go Go.RowKit

theorem readL_small : ∀ (f : Nat) (l : List UInt8), ∀ s ∈ readL f l, s.length ≤ 20000
  | 0, l, s, h => by unfold readL at h; cases h
  | f + 1, l, s, h => by
    unfold readL at h
    cases ho : oneL l with
    | none => rw [ho] at h; cases h
    | some x =>
      rw [ho] at h
      rcases List.mem_cons.1 h with rfl | h
      · exact (oneL_inv ho).1
      · exact readL_small f _ s h
theorem tapeL_small (l : List UInt8) : ∀ s ∈ tapeL l, s.length ≤ 20000 := readL_small _ _
theorem recT_eq (t : TapeS) : recT t = ⟨recsL (tapeL t.bytes), false, -1⟩ := by unfold recT; rw [tapeL_prefix]
theorem recsL_tape_short (l : List UInt8) : (recsL (tapeL l)).length ≤ l.length := by
  have := congrArg List.length (tapeL_prefix l)
  rw [List.length_take] at this
  omega
theorem FtEnv.tape {E : Nat → Addr} {w : World} (h : FtEnv E w) : TEnv w := ⟨h.1.2, h.1.1.2, h.1.1.1.2.max⟩

set_option maxRecDepth 100000 in
theorem openNil1_any {E : Nat → Addr} (q : Option Addr) (w : World) (hE : Env E w) :
    Calls Tryz.prog 10 #[.pointer none, .pointer q] w fun e w' => e = .returned (.tuple #[.pointer none, sentV E 2]) ∧ Below w.heap.size w w' := by
  have e1 : w.cell? ⟨1, 0, none⟩ = some (sentV E 2) := hE.err 2 (by decide)
  clear hE
  go_enter Tryz.func10, Tryz.ntmps10
  go_wp2_with fail
  go_quiet (fail)
  go_wp2_with fail
  go_ret2
  exact ⟨rfl, below_drewN _ _ _⟩
set_option maxRecDepth 100000 in
theorem openNil2_any {E : Nat → Addr} (p : Addr) (w : World) (hE : Env E w) :
    Calls Tryz.prog 10 #[.pointer (some p), .pointer none] w fun e w' => e = .returned (.tuple #[.pointer none, sentV E 2]) ∧ Below w.heap.size w w' := by
  have e1 : w.cell? ⟨1, 0, none⟩ = some (sentV E 2) := hE.err 2 (by decide)
  clear hE
  go_enter Tryz.func10, Tryz.ntmps10
  go_wp2_with fail
  go_quiet (fail)
  go_wp2_with fail
  go_ret2
  exact ⟨rfl, below_drewN _ _ _⟩

/-- What Open hands back, and leaves. -/
def OpenPost (E : Nat → Addr) (B nb tb tn : Nat) (n : NetB) (r : Er × ShopS) (t : TapeS) (w : World) (e : Ending) (w' : World) : Prop :=
  ((r.1.code = 0 ∧ ∃ hb sb rv lv rl, e = .returned (.tuple #[.pointer (some ⟨sb, 0, none⟩), .nilIface]) ∧ Hid (ProgAt w' B nb hb tb sb rv lv rl n r.2 t tn) ∧ Hid (OpOk r.2)) ∨
    (r.1.code ≠ 0 ∧ ∃ ev, e = .returned (.tuple #[.pointer none, ev]) ∧ Hid (IsErr E w' ev r.1) ∧ Hid (TapeIs w' B tb t))) ∧ Hid (Keeps TapeRow B w w')

set_option maxHeartbeats 4000000 in
set_option maxRecDepth 100000 in
theorem shopOpen_any {E : Nat → Addr} (B nb tb tn : Nat) (n : NetB) (t : TapeS) (w : World) (hn : NetIs w B nb n tn) (ht : TapeIs w B tb t) (hBw : B ≤ w.heap.size) (hE : ∀ W, Below B w W → FtEnv E W) :
    Calls Tryz.prog 10 #[.pointer (some ⟨nb, 0, none⟩), .pointer (some ⟨tb, 0, none⟩)] w (OpenPost E B nb tb tn n (openS t.bytes) (recT t) w) := by
  have HN := Lib.hid hn
  have HE := Lib.hid hE
  have hnw := hn.lt
  have hlen : t.bytes.length ≤ 1048576 := ht.2.1
  have C := Lib.hid (recover_any B tb t.bytes t.off t.cut w ht.1 hlen hBw (fun W hW => (hE W hW).tape))
  clear hn hE ht
  go_enter Tryz.func10, Tryz.ntmps10
  go_wp2_with fail
  refine C.out.mono ?_
  clear C
  rintro e w1 ⟨v, zs, rfl, HV, HZ, hzl, hd1, ho1⟩
  have hk1 := ho1.keeps
  have HK1 := Lib.hid hk1
  have hT1 : TapeIs w1 B tb (recT t) := by
    rw [recT_eq]
    have := recsL_tape_short t.bytes
    exact ⟨hd1, by show (recsL (tapeL t.bytes)).length ≤ _; omega, by show (-1 : Int) ≤ -1 ∧ (-1 : Int) ≤ _; omega⟩
  have HT1 := Lib.hid hT1
  have HN1 := Lib.hid (HN.out.keeps hk1 kt_map (kt_other _ (by decide) (by decide)))
  have HSZ : Hid (∀ z ∈ zs, z.size ≤ 20000) := fun z hz => by
    have := tapeL_small t.bytes (bl z) (by rw [← HZ.out]; exact List.mem_map.2 ⟨z, hz, rfl⟩)
    rwa [bl_length] at this
  have HO : Hid (openS t.bytes = openGo 0 emptyS (zs.map bl)) := by show _ = _; rw [HZ.out]; rfl
  have hB1 : B ≤ w1.heap.size := Nat.le_trans hBw hk1.below.size
  have hnw1 : nb < w1.heap.size := Nat.lt_of_lt_of_le hnw hk1.below.size
  have C := Lib.hid (shopEmpty_any (some ⟨nb, 0, none⟩) (some ⟨tb, 0, none⟩) w1)
  obtain ⟨ao, cap, rfl, r1, r2, H3⟩ := (Row.of_owns (enc := encStr) (size := 1) (fun _ => rfl) HV.out).parts
  have HR := Lib.hid H3
  clear HV hd1 ho1 hk1 hT1 HN H3 HZ
  go_wp2_with fail
  refine C.out.mono ?_
  clear C
  rintro e w2 ⟨hb, sb, rfl, hhb, HA, hb2⟩
  obtain ⟨Bo, hBo⟩ : ∃ Bo, w1.heap.size = Bo := ⟨_, rfl⟩
  rw [hBo] at HA hb2 hhb hnw1 hB1
  have HBo := Lib.hid hBo
  clear hBo
  have hBo2 : Bo ≤ w2.heap.size := by have := hb2.size; have := HBo.out; omega
  have HE2 : Hid (∀ W, Below Bo w1 W → FtEnv E W) := fun W hW => HE.out W (HK1.out.below.trans (hW.mono hB1))
  go_wp2_with fail
  go_loopw [32] (fun i wr => ∃ (k : Nat) (S : ShopS), k ≤ zs.length ∧ i = .int .i64 k ∧ Hid (openS t.bytes = openGo k S ((zs.map bl).drop k)) ∧ Hid (OpOk S) ∧ Hid (AgIs wr Bo hb sb (.pointer (some ⟨nb, 0, none⟩)) (.pointer (some ⟨tb, 0, none⟩)) S) ∧ Bo ≤ wr.heap.size ∧ Hid (Below Bo w1 wr)) (fun i _ => zs.length - (intOf i).toNat)
  case atStart => exact ⟨0, emptyS, Nat.zero_le _, rfl, HO, OpOk.empty, ⟨_, _, _, HA.out⟩, hBo2, hb2⟩
  case round =>
    obtain ⟨k, S, hk, rfl, HG, HOK, HAg, hBr, HB⟩ := hrel
    by_cases hlt : k < zs.length
    · obtain ⟨g, off, rfl, hgl, hcell⟩ := HR.out k hlt
      have cl := hcell k hlt
      have hgB : g < Bo := by rw [← HBo.out]; exact hgl
      have cl2 : wr.cell? ⟨g, off + k, none⟩ = some (.string zs[k]) := by
        rw [HB.out.cell (p := ⟨g, off + k, none⟩) hgB]; exact cl
      have hz : zs[k].size ≤ 20000 := HSZ.out _ (List.getElem_mem hlt)
      have HD : Hid ((zs.map bl).drop k = bl zs[k] :: (zs.map bl).drop (k + 1)) := drop_bl zs k hlt
      have C := shopAgain_any (E := E) Bo hb sb (some ⟨nb, 0, none⟩) (some ⟨tb, 0, none⟩) S zs[k] wr HAg.out HOK.out hz hBr (fun W hW => HE2.out W (HB.out.trans hW))
      have hst := @OpOk.step S (bl zs[k]) HOK.out
      have hgs := @openGo_step k S (bl zs[k]) ((zs.map bl).drop (k + 1))
      have hgb := @openGo_bad k S (bl zs[k]) ((zs.map bl).drop (k + 1))
      rw [← HD.out, ← HG.out] at hgs hgb
      obtain ⟨r, hr⟩ : ∃ r, againS S (bl zs[k]) = r := ⟨_, rfl⟩
      rw [hr] at C hst hgs hgb
      obtain ⟨c, S2⟩ := r
      unfold AgPost at C
      dsimp only at C hst hgs hgb
      have HC := Lib.hid C
      have HST := Lib.hid hst
      have HGS := Lib.hid hgs
      have HGB := Lib.hid hgb
      clear C hr hcell cl hst hgs hgb HG HD HAg
      generalize zs[k] = z at cl2 HC
      go_wp2_with fail
      refine HC.out.mono ?_
      clear HC cl2
      rintro e w3 ⟨⟨ev, er, rfl, HI, hc⟩, HP, hb3⟩
      have HB3 := Lib.hid (HB.out.trans hb3)
      have hBr3 : Bo ≤ w3.heap.size := Nat.le_trans hBr hb3.size
      clear hb3
      by_cases hc0 : er.code = 0
      · obtain rfl : ev = .nilIface := HI.out.zero hc0
        have hcz : c = 0 := by rw [← hc]; exact hc0
        have HAg3 := Lib.hid (HP.out hcz)
        have HOK3 := Lib.hid (HST.out hcz)
        have HG3 := Lib.hid (HGS.out hcz)
        clear hc0 hcz hc HI HP
        go_wp2_with fail
        go_roundw
        case rel => exact ⟨k + 1, S2, by omega, by go_num, HG3, HOK3, HAg3, hBr3, HB3⟩
        case measure => simp [intOf]; omega
      · have hcz : c ≠ 0 := by rw [← hc]; exact hc0
        have HY := Lib.hid (HGB.out hcz)
        have C := Lib.hid (treeBare_any er ev w3 HI.out)
        obtain ⟨ty, y, rfl⟩ := HI.out.some_inv hc0
        rw [hc] at C
        obtain ⟨c, rfl⟩ := Nat.exists_eq_succ_of_ne_zero hcz
        clear hc hc0 HI HP hcz
        go_wp2_with fail
        refine C.out.mono ?_
        clear C
        rintro e w4 ⟨⟨u, rfl, HU⟩, rfl⟩
        obtain ⟨rfl, hc13⟩ := IsErr.bare_inv HU.out
        have hbz : Below w1.heap.size w1 (w3.alloc (.cells #[.int .i64 k, sentV E c] 98)) := by rw [HBo.out]; exact HB3.out.alloc hBr3 _
        clear HU
        go_wp2_with fail
        go_ret2
        rw [HY.out]
        refine ⟨.inr ⟨Nat.succ_ne_zero _, _, rfl, ?_, HT1.out.below hbz⟩, HK1.out.trans (Keeps.of hbz (by rw [HBo.out]; exact hB1))⟩
        show IsErr _ _ _ _
        exact IsErr.fault E _ c hc13 _ _ ((World.cell?_alloc_at (w := w3) _ _ _ _ rfl).trans rfl) ((World.cell?_alloc_at (w := w3) _ _ _ _ rfl).trans rfl)
    · obtain rfl : k = zs.length := by omega
      have HY : Hid (openS t.bytes = (⟨0, none⟩, S)) := by show _ = _; rw [HG.out, drop_end]; rfl
      obtain ⟨rv, lv, rl, hA⟩ := HAg.out
      have hbz : Below w1.heap.size w1 wr := by rw [HBo.out]; exact HB.out
      have HPR : Hid (ProgAt wr B nb hb tb sb rv lv rl n S (recT t) tn) := hA.prog hB1 (HN1.out.below hbz) (HT1.out.below hbz) (by omega)
      have HKZ := Lib.hid (HK1.out.trans (Keeps.of hbz (by rw [HBo.out]; exact hB1)))
      clear hA HG hbz
      go_wp2_with fail
      go_ret2
      rw [HY.out]
      exact ⟨.inl ⟨rfl, hb, sb, rv, lv, rl, rfl, HPR, HOK⟩, HKZ⟩
end Go.Proofs.YtcjjbpoaojjojaaGreatDoor
