/- fetch.right, fetch.one; the reference's askFault: contracts. The text of a laid error: errors' Error, and the reference's ErrorText. fetch.Try: the contract. fetch.Fetch: the contract. The laws' own small words: longAsk, fetched. -/
import Derived.Test.YtomceddfbfpjjaaGreatDoorJFetchPlains
import Derived.Test.YtomceddfbfpjjaaGreatDoorJNetEnds
import Derived.Test.YtomceddfbfpjjaaGreatDoorJMirrorUp
import Derived.Test.YtomceddfbfpjjaaGreatDoorJWantAll
import Derived.Test.YtomceddfbfpjjaaGreatDoorJRefWantsUp
import Derived.Test.YtomceddfbfpjjaaGreatDoorJRefMirror
import Derived.Test.YtomceddfbfpjjaaGreatDoorJFiles
import Derived.Test.YtomceddfbfpjjaaGreatDoorJRefTreeUp
import Derived.BigQuiet
import Derived.Test.YtomceddfbfpjjaaGreatDoorJErrors
import Derived.Test.YtomceddfbfpjjaaGreatDoorJRowed
import Derived.Test.YtomceddfbfpjjaaGreatDoorJPathed
import Derived.Test.YtomceddfbfpjjaaGreatDoorJPlainly
import Derived.Test.YtomceddfbfpjjaaGreatDoorJTreeFew
import Derived.Test.YtomceddfbfpjjaaGreatDoorJRefLinkUp
import Derived.Laws.OwnMore
namespace Go.Proofs.YtomceddfbfpjjaaGreatDoor
open Go Go.RowKit

/-- The environment of fetching. -/
def FtEnv (E : Nat → Addr) (w : World) : Prop := REnv E w ∧ LEnv E w
theorem FtEnv.ext {E : Nat → Addr} {w w' : World} (h : FtEnv E w) (hb : Below w.heap.size w w') : FtEnv E w' := ⟨h.1.ext hb, h.2.ext hb⟩
theorem FtEnv.env {E : Nat → Addr} {w : World} (h : FtEnv E w) : Env E w := h.1.1.1.1
theorem FtEnv.net {E : Nat → Addr} {w : World} (h : FtEnv E w) : NEnv E w := ⟨h.1.1.1.1, h.2⟩
/-- What is wanted, as fetching may be asked. -/
structure AskW (x : WantB) : Prop where
  name : x.name.size ≤ 30000
  url : x.url.size ≤ 120
theorem WBox.keep {K : Obj → Prop} {B : Nat} {w w' : World} {p : Nat} {x : WantB} (h : WBox w p x) (hk : Keeps K B w w') (h1 : ∀ cs, ¬ K (.cells cs 25 (0, 0))) : WBox w' p x := hk.keep p _ h (h1 _)
theorem kn_want (cs : Array Value) : ¬ NetRow (.cells cs 25 (0, 0)) := by
  rintro (⟨es, c, h⟩ | ⟨c, fz, h⟩)
  · cases h
  · injection h with _ h3 _; exact absurd h3 (by decide)

def AskPost (E : Nat → Addr) (l : List RuleL) (x : WantB) (w : World) (e : Ending) (w' : World) : Prop :=
  (∃ ev, e = .returned ev ∧ Hid (IsErr E w' ev (askE l x))) ∧ Below w.heap.size w w'
theorem errV_is {E : Nat → Addr} {w : World} {c : Nat} (h : c ≤ 13) : IsErr E w (errV E c) ⟨c, none⟩ := by
  cases c with
  | zero => exact .inl ⟨rfl, rfl⟩
  | succ c => exact .inr (.inl ⟨c, by omega, rfl, rfl⟩)
set_option maxHeartbeats 1000000 in
set_option maxRecDepth 100000 in
theorem fetchRight_any {E : Nat → Addr} (v : Value) (l : List RuleB) (x : WantB) (w : World) (hl : l.length ≤ 1000) (hs : ∀ r ∈ l, Small r) (hx : AskW x) (hv : RulesRow w v l) (hE : FtEnv E w) :
    Calls Tryz.prog 38 #[v, .agg #[.string x.name, .string x.url, .string x.kind, .int .i64 x.strip, .int .i64 x.sum]] w (AskPost E (l.map ruleOf) x w) := by
  obtain ⟨px, hpx⟩ : ∃ px, w.heap.size = px := ⟨_, rfl⟩
  obtain ⟨wx, hwx⟩ : ∃ wx, w.alloc (.cells #[.string x.name, .string x.url, .string x.kind, .int .i64 x.strip, .int .i64 x.sum] 25) = wx := ⟨_, rfl⟩
  have hbx : Below w.heap.size w wx := by rw [← hwx]; exact (Below.refl _ _).alloc (Nat.le_refl _) _
  have BX := Lib.hid (show WBox wx px x by rw [← hwx, ← hpx]; exact WBox.new w x)
  have HB := Lib.hid hbx
  have HE := Lib.hid (hE.ext hbx)
  have HWX := Lib.hid hwx
  have HPX := Lib.hid hpx
  have HX := Lib.hid hx
  have C := Lib.hid (mirrorCheck_any v l wx hl hs (hv.ext hbx) (hE.ext hbx).2)
  clear hpx hwx hbx hE hv hx
  go_enter Tryz.func38, Tryz.ntmps38
  go_upto_region 1 with fail
  rw [HWX.out, HPX.out]
  go_wp2_with fail
  refine C.out.mono ?_
  clear C
  intro e w1 hpost
  unfold CheckPost at hpost
  obtain ⟨⟨ev, rfl, HV⟩, hb1⟩ := hpost
  have B1 := Lib.hid (HB.out.trans (hb1.mono HB.out.size))
  by_cases h0 : (rulesEr (l.map ruleOf)).code = 0
  · obtain rfl : ev = .nilIface := HV.out.zero h0
    have HA := Lib.hid (askE_from (w := x) h0)
    obtain ⟨c0, c1, c2, c3, c4⟩ := (BX.out.ext hb1).cells
    have C := Lib.hid (wantCheck_any x w1 (by have := HX.out.name; omega) (by have := HX.out.url; omega) (HE.out.ext hb1).1.1.1)
    clear h0 HV
    go_wp2_with fail
    refine C.out.mono ?_
    clear C
    rintro e w2 ⟨rfl, hb2⟩
    go_wp2_with fail
    go_ret
    exact ⟨⟨_, rfl, by rw [HA.out]; exact errV_is (wantE_le x)⟩, B1.out.trans (hb2.mono B1.out.size)⟩
  · have HA := Lib.hid (askE_no (w := x) h0)
    obtain ⟨ty, y, rfl⟩ := HV.out.some_inv h0
    clear h0
    go_wp2_with fail
    go_ret
    exact ⟨⟨_, rfl, by rw [HA.out]; exact HV⟩, B1.out⟩

/-- What one way hands back, and leaves. -/
def OnePost (E : Nat → Addr) (B b t : Nat) (r : Nat × List FileB × NetB) (w : World) (e : Ending) (w' : World) : Prop :=
  ∃ v, e = .returned (.tuple #[v, errV E r.1]) ∧ Hid (FGot w' w.heap.size r.1 v r.2.1) ∧ NetIs w' B b r.2.2 (t + 1) ∧ KeepsU 4 b NetRow B w w'
set_option maxHeartbeats 2000000 in
set_option maxRecDepth 100000 in
theorem fetchOne_any {E : Nat → Addr} (B b t : Nat) (n : NetB) (u : ByteArray) (x : WantB) (w : World) (h : NetIs w B b n t) (ht : t < 1000000000) (hu : u.size ≤ 100000) (hx : AskW x) (hBw : B ≤ w.heap.size) (hEB : ∀ W, Below B w W → FtEnv E W) (hG : ∀ k, k < 13 → gE k < B) :
    Calls Tryz.prog 40 #[.pointer (some ⟨b, 0, none⟩), .string u, .agg #[.string x.name, .string x.url, .string x.kind, .int .i64 x.strip, .int .i64 x.sum]] w (OnePost E B b t (wayB n u x) w) := by
  obtain ⟨px, hpx⟩ : ∃ px, w.heap.size = px := ⟨_, rfl⟩
  obtain ⟨wx, hwx⟩ : ∃ wx, w.alloc (.cells #[.string x.name, .string x.url, .string x.kind, .int .i64 x.strip, .int .i64 x.sum] 25) = wx := ⟨_, rfl⟩
  have hbx : Below w.heap.size w wx := by rw [← hwx]; exact (Below.refl _ _).alloc (Nat.le_refl _) _
  have BX := Lib.hid (show WBox wx px x by rw [← hwx, ← hpx]; exact WBox.new w x)
  have KX : KeepsU 4 b NetRow B w wx := KeepsU.of hbx hBw
  have HKX := Lib.hid KX
  have HEB := Lib.hid hEB
  have HWX := Lib.hid hwx
  have HPX := Lib.hid hpx
  have HX := Lib.hid hx
  have HOK := Lib.hid h.1
  have hBx : B ≤ wx.heap.size := Nat.le_trans hBw hbx.size
  have C := netGet_any B b t n u wx (h.below hbx) ht hu hBx (hEB wx KX.below).net hG
  have hle := getN_le n u
  have hlen := getN_len (u := u) h.1
  have hw : wayB n u x = if (getN n u).2.1 ≠ 0 then ((getN n u).2.1, [], (getN n u).2.2) else ((rightW x ⟨(getN n u).1.toArray⟩).1, (rightW x ⟨(getN n u).1.toArray⟩).2, (getN n u).2.2) := rfl
  obtain ⟨r, hr⟩ : ∃ r, wayB n u x = r := ⟨_, rfl⟩
  rw [hr] at hw ⊢
  obtain ⟨g, hg⟩ : ∃ g, getN n u = g := ⟨_, rfl⟩
  rw [hg] at hw C hle hlen
  obtain ⟨s, c, n'⟩ := g
  unfold GetPost at C
  dsimp only at hw C hle hlen
  have HW := Lib.hid hw
  have HC := Lib.hid C
  clear C hpx hwx hbx hEB hx hr hg hw h KX hG
  cases c with
  | succ c =>
    have HR : Hid (r = (c + 1, [], n')) := by show _ = _; rw [HW.out, if_pos (by omega)]
    rw [show errV E (c + 1) = sentV E c from rfl] at HC
    clear HW hle hlen
    go_enter Tryz.func40, Tryz.ntmps40
    go_upto_region 1 with fail
    rw [HWX.out, HPX.out]
    go_wp2_with fail
    refine HC.out.mono ?_
    clear HC
    rintro e w1 ⟨z, rfl, HZ, HN, HK⟩
    go_wp2_with fail
    go_ret2
    rw [HR.out]
    exact ⟨_, rfl, FGot.bad (FArg.nil _) (Nat.succ_ne_zero _), HN, HKX.out.trans HK⟩
  | zero =>
    have HR : Hid (r = ((rightW x ⟨s.toArray⟩).1, (rightW x ⟨s.toArray⟩).2, n')) := by show _ = _; rw [HW.out, if_neg (by omega)]
    rw [show errV E 0 = .nilIface from rfl] at HC
    have hlen2 := hlen
    clear HW hle
    go_enter Tryz.func40, Tryz.ntmps40
    go_upto_region 1 with fail
    rw [HWX.out, HPX.out]
    go_wp2_with fail
    refine HC.out.mono ?_
    clear HC
    rintro e w1 ⟨z, rfl, HZ, HN, HK⟩
    have BX1 := BX.out.keep HK.toKeeps kn_want
    obtain ⟨c0, c1, c2, c3, c4⟩ := BX1.cells
    obtain rfl : z = ⟨s.toArray⟩ := bl_eq (by rw [HZ.out]; rfl)
    have HK1 := Lib.hid (HKX.out.trans HK)
    have C := Lib.hid (wantRight_any x ⟨s.toArray⟩ w1 HX.out.name (by have := HX.out.url; omega) (by rw [← bl_length]; show s.length ≤ _; omega) (HEB.out w1 HK1.out.below).1)
    have HN1 := Lib.hid HN
    clear HZ HN HK BX1 hlen hlen2
    go_wp2_with fail
    refine C.out.mono ?_
    clear C
    intro e w2 hpost
    unfold WOpenPost at hpost
    obtain ⟨⟨v, rfl, HV⟩, hb2⟩ := hpost
    go_wp2_with fail
    go_ret2
    rw [HR.out]
    exact ⟨v, rfl, HV.out.low HK1.out.below.size, HN1.out.below hb2, HK1.out.trans (KeepsU.of hb2 (Nat.le_trans hBw HK1.out.below.size))⟩

end Go.Proofs.YtomceddfbfpjjaaGreatDoor

namespace Go.Proofs.YtomceddfbfpjjaaGreatDoor
open Go Go.RowKit

theorem Tryz.methodError (v : Value) (w : World) : (Go.method 438 300 v "Error").run Tryz.prog w = .ok (281, v) w := by kernel_rfl
theorem errTx_lenB : ((List.range 14).all fun c => decide ((errTx c).length ≤ 20)) = true := by decide
theorem errTx_len (c : Nat) (h : c ≤ 13) : (errTx c).length ≤ 20 := of_decide_eq_true (List.all_eq_true.1 errTx_lenB c (List.mem_range.2 (by omega)))
theorem spot_of {w : World} {a : Addr} {v : Value} (h : w.cell? a = some v) : a = ⟨a.block, a.off, none⟩ := by
  have := World.cell?_spot h
  obtain ⟨b, o, s⟩ := a
  subst this
  rfl

set_option maxRecDepth 100000 in
theorem errError_any {E : Nat → Addr} {w : World} (hE : Env E w) (k : Nat) (hk : k < 13) :
    Calls Tryz.prog 281 #[.pointer (some (E k))] w fun e w' => (∃ s : ByteArray, e = .returned (.string s) ∧ Hid (bl s = errTx (k + 1)) ∧ s.size ≤ 20) ∧ w = w' := by
  obtain ⟨s, h1, h2⟩ := hE.txt k hk
  have hsz : s.size ≤ 20 := by
    rw [← bl_length, show bl s = errTx (k + 1) from h2]
    exact errTx_len (k + 1) (by omega)
  have HT : Hid (bl s = errTx (k + 1)) := h2
  obtain ⟨a, ha⟩ : ∃ a, E k = a := ⟨_, rfl⟩
  rw [ha] at h1 ⊢
  have hs := spot_of h1
  obtain ⟨b, o, sp⟩ := a
  obtain rfl : sp = none := by injection hs
  clear h2 ha hs hE
  have h3 : w.cell? ⟨b, o + 0, none⟩ = some (.string s) := h1
  go_enter Tryz.func281, Tryz.ntmps281
  go_wp2_with fail
  go_ret
  exact ⟨⟨s, rfl, HT, hsz⟩, rfl⟩
end Go.Proofs.YtomceddfbfpjjaaGreatDoor

namespace Go.Proofs.YtomceddfbfpjjaaGreatDoor
open Go Go.RowKit

/-- Lines of one's own. -/
def TOwn (w : World) (base : Nat) (v : Value) (zs : List ByteArray) : Prop := w.ownsRow base 9 1 v zs.length (zs.map Value.string)
def LRow (o : Obj) : Prop := ∃ cs fz, o = .cells cs 9 fz
theorem kl_map (es : Array MapEntry) (c : Nat) : ¬ LRow (.map es c) := fun ⟨_, _, h⟩ => by cases h
theorem kl_net (cs : Array Value) (fz : Nat × Nat) : ¬ LRow (.cells cs 76 fz) := fun ⟨_, _, h⟩ => by injection h with _ h3 _; exact absurd h3 (by decide)
theorem kl_want (cs : Array Value) : ¬ LRow (.cells cs 25 (0, 0)) := fun ⟨_, _, h⟩ => by injection h with _ h3 _; exact absurd h3 (by decide)
theorem kl_file (cs : Array Value) : ¬ LRow (.cells cs 68 (0, 0)) := fun ⟨_, _, h⟩ => by injection h with _ h3 _; exact absurd h3 (by decide)
theorem kn_str (cs : Array Value) : ¬ NetRow (.cells cs 9 (0, 0)) := notN_str cs
theorem TOwn.nil (w : World) (base : Nat) : TOwn w base (.slice none 0 0) [] := World.ownsRow_nil _ _ _ _
theorem TOwn.ext {w w' : World} {base : Nat} {v : Value} {zs : List ByteArray} (h : TOwn w base v zs) (hb : Below w.heap.size w w') : TOwn w' base v zs := owns_below h hb
theorem TOwn.low {w : World} {base B : Nat} {v : Value} {zs : List ByteArray} (h : TOwn w base v zs) (hB : B ≤ base) : TOwn w B v zs := ownsRow_low h hB
theorem TOwn.keeps {K : Obj → Prop} {w w' : World} {base B : Nat} {v : Value} {zs : List ByteArray} (h : TOwn w base v zs) (hk : Keeps K B w w') (h1 : ∀ cs, ¬ K (.cells cs 9 (0, 0))) : TOwn w' base v zs := hk.owns h h1
theorem TOwn.row {w : World} {base : Nat} {v : Value} {zs : List ByteArray} (h : TOwn w base v zs) : Row encStr 1 w v zs := row_of_own h
theorem TOwn.shape {w : World} {base : Nat} {v : Value} {zs : List ByteArray} (h : TOwn w base v zs) : ∃ ao cap, v = .slice ao zs.length cap := by
  rcases h.2 with ⟨rfl, h0⟩ | ⟨g, cap, cur, rfl, _⟩
  · exact ⟨none, 0, by rw [h0]⟩
  · exact ⟨_, _, rfl⟩
theorem KeepsU.fresh {n b : Nat} {K : Obj → Prop} {B : Nat} {w a c : World} (h : KeepsU n b K B w a) (hb : Below w.heap.size a c) (hB : B ≤ w.heap.size) : KeepsU n b K B w c :=
  ⟨h.toKeeps.fresh hb hB, fun k hk hs => (hb.block k hk).trans (h.span k hk hs)⟩
/-- Texts at a place. -/
def WaysAt (w : World) (c off : Nat) (xs : List ByteArray) : Prop := ∀ i, (hi : i < xs.length) → w.cell? ⟨c, off + i, none⟩ = some (.string xs[i])

/-- What Try hands back, and leaves. -/
def TryPost (E : Nat → Addr) (B b t : Nat) (r : Er × List FileB × List (List UInt8) × NetB) (w : World) (e : Ending) (w' : World) : Prop :=
  ∃ fv lv ev zs, e = .returned (.tuple #[fv, lv, ev]) ∧ Hid (IsErr E w' ev r.1) ∧ Hid (FOwn w' w.heap.size fv r.2.1) ∧ Hid (TOwn w' w.heap.size lv zs) ∧ Hid (zs.map bl = r.2.2.1 ∧ zs.length ≤ 20) ∧ Hid (NetIs w' B b r.2.2.2 (t + 20)) ∧ Hid (KeepsU 4 b NetRow B w w')
theorem app_bl (u s : ByteArray) (l : List UInt8) : bl ((u ++ ({ data := l.toArray } : ByteArray)) ++ s) = bl u ++ (l ++ bl s) := by
  rw [bl_append, bl_append, List.append_assoc]; rfl

set_option maxHeartbeats 4000000 in
set_option maxRecDepth 100000 in
theorem fetchTry_any {E : Nat → Addr} (B b t : Nat) (n : NetB) (v : Value) (l : List RuleB) (x : WantB) (w : World) (h : NetIs w B b n t) (ht : t + 20 < 1000000000) (hl : l.length ≤ 1000) (hs : ∀ r ∈ l, Small r) (hx : AskW x) (hv : RulesRow w v l) (hBw : B ≤ w.heap.size) (hEB : ∀ W, Below B w W → FtEnv E W) (hG : ∀ k, k < 13 → gE k < B) :
    Calls Tryz.prog 12 #[.pointer (some ⟨b, 0, none⟩), v, .agg #[.string x.name, .string x.url, .string x.kind, .int .i64 x.strip, .int .i64 x.sum]] w (TryPost E B b t (tryF n (l.map ruleOf) x) w) := by
  obtain ⟨i0, hi0, hz0, hz1, hz2⟩ := info_parts Tryz.infoW
  obtain ⟨px, hpx⟩ : ∃ px, w.heap.size = px := ⟨_, rfl⟩
  obtain ⟨wx, hwx⟩ : ∃ wx, w.alloc (.cells #[.string x.name, .string x.url, .string x.kind, .int .i64 x.strip, .int .i64 x.sum] 25) = wx := ⟨_, rfl⟩
  have hbx : Below w.heap.size w wx := by rw [← hwx]; exact (Below.refl _ _).alloc (Nat.le_refl _) _
  have BX := Lib.hid (show WBox wx px x by rw [← hwx, ← hpx]; exact WBox.new w x)
  have HB := Lib.hid hbx
  have HEB := Lib.hid hEB
  have HWX := Lib.hid hwx
  have HPX := Lib.hid hpx
  have HX := Lib.hid hx
  have HG := Lib.hid hG
  have HS := Lib.hid hs
  have HV0 := Lib.hid (hv.ext hbx)
  have HN0 := Lib.hid (h.below hbx)
  have KX : KeepsU 4 b NetRow B w wx := KeepsU.of hbx hBw
  have C := Lib.hid (fetchRight_any v l x wx hl hs hx (hv.ext hbx) (hEB wx KX.below))
  obtain ⟨c0, c1, c2, c3, c4⟩ := BX.out.cells
  have KX0 := Lib.hid KX
  clear hpx hwx hbx hEB hx hv h hG hs KX
  go_enter Tryz.func12, Tryz.ntmps12
  go_upto_region 1 with fail
  rw [HWX.out, HPX.out]
  go_wp2_with fail
  refine C.out.mono ?_
  clear C c0 c1 c2 c3 c4
  intro e w1 hpost
  unfold AskPost at hpost
  obtain ⟨⟨ev, rfl, HV⟩, hb1⟩ := hpost
  have B1 := Lib.hid (HB.out.trans (hb1.mono HB.out.size))
  have K1 := Lib.hid (KX0.out.trans (KeepsU.of hb1 (Nat.le_trans hBw HB.out.size)))
  by_cases h0 : (askE (l.map ruleOf) x).code = 0
  rotate_left
  · have HA := Lib.hid (tryF_ask (n := n) h0)
    obtain ⟨ty, y, rfl⟩ := HV.out.some_inv h0
    have HN1 := Lib.hid ((HN0.out.below hb1).later (Nat.le_add_right t 20))
    clear h0
    go_wp2_with fail
    go_ret3
    rw [HA.out]
    exact ⟨_, _, _, [], rfl, HV, FOwn.nil _ _, TOwn.nil _ _, ⟨rfl, Nat.zero_le _⟩, HN1, K1⟩
  obtain rfl : ev = .nilIface := HV.out.zero h0
  have HA := Lib.hid (tryF_from (n := n) h0)
  have hok := askE_want h0
  have hr0 := (askE_zero h0).1
  have hwe : waysEr (l.map ruleOf) (bl x.url) = ⟨0, none⟩ := by unfold waysEr; rw [if_pos hr0, hok.url]
  have HSH := Lib.hid (waysOut_short (l := l.map ruleOf) hok.url)
  have HNE := Lib.hid (waysOut_ne (l.map ruleOf) (bl x.url))
  have BX1 := Lib.hid (BX.out.ext hb1)
  have HN1 := Lib.hid (HN0.out.below hb1)
  have C := ways_any v l x.url w1 hl HS.out HX.out.url (HV0.out.ext hb1) (HEB.out w1 K1.out.below).2
  unfold WaysPost at C
  rw [hwe] at C
  have HC := Lib.hid C
  obtain ⟨c0, c1, c2, c3, c4⟩ := BX1.out.cells
  clear C hb1 h0 hok hr0 hwe HV HN0 HV0 BX
  go_wp2_with fail
  refine HC.out.mono ?_
  clear HC c0 c1 c2 c3 c4
  rintro e w2 ⟨⟨ov, ev, xs, rfl, HV, HR, HM, hxl⟩, hb2⟩
  obtain rfl : ev = .nilIface := HV.out.zero rfl
  have HMX : Hid (xs.map bl = waysOut (l.map ruleOf) (bl x.url)) := HM.out.trans (if_pos trivial)
  have B2 := Lib.hid (B1.out.trans (hb2.mono B1.out.size))
  have K2 := Lib.hid (K1.out.fresh (hb2.mono B1.out.size) hBw)
  have BX2 := Lib.hid (BX1.out.ext hb2)
  have HN2 := Lib.hid (HN1.out.below hb2)
  have hxne : xs ≠ [] := fun e0 => HNE.out (by rw [← HMX.out, e0]; rfl)
  rcases HR.out.one with ⟨_, e0⟩ | ⟨c, off, cap, rfl, h1, h2, h3, h4⟩
  · exact absurd e0 hxne
  have HWA : Hid (WaysAt w2 c off xs) := h4
  obtain ⟨D, hD⟩ : ∃ D, w2.heap.size = D := ⟨_, rfl⟩
  rw [hD] at h3
  have hwD : w.heap.size ≤ D := by rw [← hD]; exact B2.out.size
  have HU : Hid (∀ i, (hi : i < xs.length) → xs[i].size ≤ 200) := fun i hi => by
    rw [← bl_length]
    exact HSH.out _ (by rw [← HMX.out]; exact List.mem_map.2 ⟨_, List.getElem_mem hi, rfl⟩)
  have hD2 : D ≤ w2.heap.size := Nat.le_of_eq hD.symm
  obtain ⟨m, hm⟩ : ∃ m, xs.length = m := ⟨_, rfl⟩
  have HMM := Lib.hid hm
  have HAX : Hid (tryF n (l.map ruleOf) x = (⟨(tryGo x n (xs.map bl) [] 0).1, none⟩, (tryGo x n (xs.map bl) [] 0).2)) := by show _ = _; rw [HMX.out]; exact HA.out
  rw [hm] at h1 hxl ⊢
  clear hb2 HV HR HM hxne HMX HNE HSH h4 hD hm HA B1 K1 BX1 HN1
  go_wp2_with fail
  go_loopg [11, 12, 34] m (fun g1 ev lv vi wr => ∃ (k last : Nat) (nk : NetB) (zs : List ByteArray), vi = .int .i64 k ∧ k ≤ m ∧ m - k ≤ g1 ∧ zs.length = k ∧ last ≤ 13 ∧ ev = errV E last ∧ D ≤ wr.heap.size ∧ Hid (tryGo x n (xs.map bl) [] 0 = tryGo x nk ((xs.map bl).drop k) (zs.map bl) last) ∧ Hid (NetIs wr B b nk (t + k)) ∧ Hid (TOwn wr D lv zs) ∧ Hid (WaysAt wr c off xs) ∧ Hid (WBox wr px x) ∧ Hid (KeepsU 4 b NetRow B w wr))
  case atStart => exact ⟨0, 0, n, [], rfl, Nat.zero_le _, by omega, rfl, Nat.zero_le _, rfl, hD2, rfl, HN2, TOwn.nil _ _, HWA, BX2, K2⟩
  case round =>
    clear HN2 HWA BX2 K2 hD2
    obtain ⟨k, last, nk, zs, rfl, hk, hg, hzl, hla, rfl, hDr, HT, HN, HO, HWA, BX, K⟩ := hrel
    obtain ⟨lo, lc, hlv⟩ := HO.out.shape
    rw [hzl] at hlv
    subst hlv
    by_cases hlt : k < m
    · have hkx : k < xs.length := by rw [HMM.out]; exact hlt
      have q0 := HWA.out k hkx
      have HDR := Lib.hid (drop_bl xs k hkx)
      have hus := HU.out k hkx
      obtain ⟨u, hu⟩ : ∃ u, xs[k] = u := ⟨_, rfl⟩
      rw [hu] at q0 HDR hus
      obtain ⟨c0, c1, c2, c3, c4⟩ := BX.out.cells
      have hBr : B ≤ wr.heap.size := Nat.le_trans hBw (Nat.le_trans hwD hDr)
      have C := fetchOne_any B b (t + k) nk u x wr HN.out (by omega) (by omega) HX.out hBr (fun W hW => HEB.out W (K.out.below.trans hW)) HG.out
      have HTO := Lib.hid (fun he => (tryGo_ok (w := x) (n := nk) (u := bl u) (us := (xs.map bl).drop (k + 1)) (lines := zs.map bl) (last := last) he))
      have HTN := Lib.hid (fun he => (tryGo_no (w := x) (n := nk) (u := bl u) (us := (xs.map bl).drop (k + 1)) (lines := zs.map bl) (last := last) he))
      have HT2 : Hid (tryGo x n (xs.map bl) [] 0 = tryGo x nk (bl u :: (xs.map bl).drop (k + 1)) (zs.map bl) last) := by show _ = _; rw [HT.out, HDR.out]
      have hle := wayOne_le nk (bl u) x (fun s => rightW_le x s)
      rw [wayOne_bl] at HTO HTN hle
      obtain ⟨r, hr⟩ : ∃ r, wayB nk u x = r := ⟨_, rfl⟩
      rw [hr] at C HTO HTN hle
      obtain ⟨rc, rf, rn⟩ := r
      unfold OnePost at C
      dsimp only at C HTO HTN hle
      have HC := Lib.hid C
      clear C hu hr HDR HT
      cases rc with
      | zero =>
        have HF := Lib.hid (HT2.out.trans (HTO.out rfl))
        rw [show errV E 0 = .nilIface from rfl] at HC
        clear HTO HTN HT2 hle
        go_wp2_with fail
        refine HC.out.mono ?_
        clear HC
        rintro e w5 ⟨v5, rfl, HG5, HN5, HK5⟩
        have HN5h := Lib.hid HN5
        have HFO := Lib.hid (FOwn.low (HG5.out.2.2 rfl) (Nat.le_trans hwD hDr))
        have hD5 : D ≤ w5.heap.size := Nat.le_trans hDr HK5.below.size
        have K5 := Lib.hid (K.out.trans HK5)
        have hO5 : w5.ownsRow D 9 1 _ zs.length (zs.map Value.string) := HO.out.keeps HK5.toKeeps kn_str
        rw [hzl] at hO5
        have HO5 := Lib.hid hO5
        clear hO5
        clear HN5 HK5 q0 c0 c1 c2 c3 c4 HG5
        go_wp2_with (at_builtin; refine wpList_append_own _ rfl _ _ 35 rfl D 9 i0 (.string ⟨#[]⟩) 1 16 Tryz.underlying35 hi0 hz0 hz1 hz2 rfl (by decide) _ _ _ rfl (World.ownsRow.alloc HO5.out _) ⟨w5.heap.size, 0, none⟩ 1 1 [.string (u ++ ⟨#[32, 111, 107]⟩)] rfl rfl ?c1 ?c2 ?c3 ?c4 ?c5 ?_)
        case c1 =>
          intro j u hj
          match j, hj with
          | 0, hj => simp at hj; subst hj; simp [Addr.add]
        case c2 => intro u hu; simp at hu; subst hu; rfl
        case c3 => rw [maxLen_eq]; omega
        case c4 => omega
        case c5 => simp; omega
        intro v6 w6 hown6 hgrow6 _
        have hal : Below w5.heap.size w5 (w5.alloc (.cells #[.string (u ++ ⟨#[32, 111, 107]⟩)] 9)) := (Below.refl _ _).alloc (Nat.le_refl _) _
        have hK6 : Keeps LRow D w5 w6 := (Keeps.of hal hD5).trans (keeps_grown (World.ownsRow.alloc HO5.out _) hgrow6 (Nat.le_trans hD5 hal.size) (fun cs => ⟨_, _, rfl⟩))
        have HN6 := Lib.hid ((HN5h.out.keeps hK6 kl_map kl_net).later (show t + k + 1 ≤ t + 20 by omega))
        have HO6 : Hid (TOwn w6 w.heap.size v6 (zs ++ [u ++ ⟨#[32, 111, 107]⟩])) := TOwn.low (base := D) (by show w6.ownsRow _ _ _ _ _ _; rw [List.length_append, hzl, List.map_append]; exact hown6) hwD
        have HF6 := Lib.hid (hK6.owns HFO.out kl_file)
        have K6 := Lib.hid (K5.out.fresh (hK6.below.mono hwD) hBw)
        clear hown6 hgrow6 hK6 hal
        go_wp2_with fail
        go_ret3
        rw [HAX.out, HF.out]
        exact ⟨_, _, _, _, rfl, .inl ⟨rfl, rfl⟩, HF6, HO6, ⟨by rw [List.map_append]; show _ ++ [bl _] = _; rw [bl_append]; rfl, by rw [List.length_append]; simp; omega⟩, HN6, K6⟩
      | succ rc =>
        have HF := Lib.hid (HT2.out.trans (HTN.out (Nat.succ_ne_zero _)))
        rw [show errV E (rc + 1) = sentV E rc from rfl] at HC
        clear HTO HTN HT2
        go_wp2_with fail
        refine HC.out.mono ?_
        clear HC
        rintro e w5 ⟨v5, rfl, HG5, HN5, HK5⟩
        have hWA5 : WaysAt w5 c off xs := fun i hi => cell_net HN.out HK5 (HWA.out i hi)
        have HWA5 := Lib.hid hWA5
        have BX5 := Lib.hid (BX.out.keep HK5.toKeeps kn_want)
        have HN5h := Lib.hid HN5
        have hD5 : D ≤ w5.heap.size := Nat.le_trans hDr HK5.below.size
        have K5 := Lib.hid (K.out.trans HK5)
        have hO5 : w5.ownsRow D 9 1 _ zs.length (zs.map Value.string) := HO.out.keeps HK5.toKeeps kn_str
        rw [hzl] at hO5
        have HO5 := Lib.hid hO5
        clear hO5
        have HE5 := Lib.hid (HEB.out w5 K5.out.below).env
        clear HN5 HK5 q0 c0 c1 c2 c3 c4 HG5 hWA5 HWA BX HN HO
        go_wp2_with fail
        refine (treeBare_any ⟨rc + 1, none⟩ (sentV E rc) w5 (IsErr.base E w5 rc (by omega))).mono ?_
        rintro e w6 ⟨⟨uv, rfl, HU2⟩, rfl⟩
        obtain rfl := HU2.out.none_inv
        rw [show errV E (rc + 1) = sentV E rc from rfl]
        have hme := Tryz.methodError
        go_wp2_with fail
        refine (errError_any HE5.out rc (by omega)).mono ?_
        rintro e w6 ⟨⟨s, rfl, HSX, hsz⟩, rfl⟩
        clear hme
        go_wp2_with (at_builtin; refine wpList_append_own _ rfl _ _ 35 rfl D 9 i0 (.string ⟨#[]⟩) 1 16 Tryz.underlying35 hi0 hz0 hz1 hz2 rfl (by decide) _ _ _ rfl (World.ownsRow.alloc HO5.out _) ⟨w5.heap.size, 0, none⟩ 1 1 [.string ((u ++ ⟨#[32]⟩) ++ s)] rfl rfl ?d1 ?d2 ?d3 ?d4 ?d5 ?_)
        case d1 =>
          intro j u hj
          match j, hj with
          | 0, hj => simp at hj; subst hj; simp [Addr.add]
        case d2 => intro u hu; simp at hu; subst hu; rfl
        case d3 => rw [maxLen_eq]; omega
        case d4 => omega
        case d5 => simp; omega
        intro v6 w6 hown6 hgrow6 _
        have hal : Below w5.heap.size w5 (w5.alloc (.cells #[.string ((u ++ ⟨#[32]⟩) ++ s)] 9)) := (Below.refl _ _).alloc (Nat.le_refl _) _
        have hK6 : Keeps LRow D w5 w6 := (Keeps.of hal hD5).trans (keeps_grown (World.ownsRow.alloc HO5.out _) hgrow6 (Nat.le_trans hD5 hal.size) (fun cs => ⟨_, _, rfl⟩))
        have HN6 := Lib.hid (HN5h.out.keeps hK6 kl_map kl_net)
        have HO6 : Hid (TOwn w6 D v6 (zs ++ [(u ++ ⟨#[32]⟩) ++ s])) := by show w6.ownsRow _ _ _ _ _ _; rw [List.length_append, hzl, List.map_append]; exact hown6
        have K6 := Lib.hid (K5.out.fresh (hK6.below.mono hwD) hBw)
        have BX6 := Lib.hid (BX5.out.keep hK6 kl_want)
        have HWA6 : Hid (WaysAt w6 c off xs) := fun i hi => (hK6.below.cell (p := ⟨c, off + i, none⟩) h3).trans (HWA5.out i hi)
        have hD6 : D ≤ w6.heap.size := Nat.le_trans hD5 hK6.below.size
        have HT6 : Hid (tryGo x n (xs.map bl) [] 0 = tryGo x rn ((xs.map bl).drop (k + 1)) ((zs ++ [(u ++ ⟨#[32]⟩) ++ s]).map bl) (rc + 1)) := by
          show _ = _
          rw [HF.out, List.map_append]
          show _ = tryGo _ _ _ (_ ++ [bl _]) _
          rw [show bl ((u ++ ⟨#[32]⟩) ++ s) = badLine (bl u) (rc + 1) by rw [app_bl u s [32], HSX.out]; rfl]
        clear hown6 hgrow6 hK6 hal HF
        go_wp2_with fail
        go_roundg (m - (k + 1))
        case measure => omega
        case rel => exact ⟨k + 1, rc + 1, rn, _, by go_num, by omega, Nat.le_refl _, by rw [List.length_append, hzl]; rfl, hle, rfl, hD6, HT6, HN6, HO6, HWA6, BX6, K6⟩
    · obtain rfl : k = m := by omega
      have HF : Hid (tryGo x n (xs.map bl) [] 0 = (last, [], zs.map bl, nk)) := by
        show _ = _
        rw [HT.out, List.drop_of_length_le (by rw [List.length_map, HMM.out]; exact Nat.le_refl _)]
        rfl
      have HN6 := Lib.hid (HN.out.later (show t + k ≤ t + 20 by omega))
      have HO6 := Lib.hid (HO.out.low hwD)
      clear HT HN HO
      go_wp2_with fail
      go_ret3
      rw [HAX.out, HF.out]
      exact ⟨_, _, _, _, rfl, errV_is hla, FOwn.nil _ _, HO6, ⟨rfl, by omega⟩, HN6, K⟩
end Go.Proofs.YtomceddfbfpjjaaGreatDoor

namespace Go.Proofs.YtomceddfbfpjjaaGreatDoor
open Go Go.RowKit

/-- First the net's blocks are turned, then the held's. -/
def FetchFrame (nb hb Bn Bh : Nat) (w w' : World) : Prop := ∃ w5, KeepsU 4 nb NetRow Bn w w5 ∧ KeepsU 2 hb HeldRow Bh w5 w'
theorem FetchFrame.below {nb hb Bn Bh : Nat} {w w' : World} (h : FetchFrame nb hb Bn Bh w w') (hB : Bn ≤ Bh) : Below Bn w w' := by
  obtain ⟨w5, h1, h2⟩ := h
  exact h1.below.trans (h2.below.mono hB)
/-- What Fetch hands back, and leaves. -/
def FetchPost (E : Nat → Addr) (Bn nb Bh hb t : Nat) (r : Er × List FileB × List (List UInt8) × HeldB × NetB) (w : World) (e : Ending) (w' : World) : Prop :=
  ∃ fv lv ev zs, e = .returned (.tuple #[fv, lv, ev]) ∧ Hid (IsErr E w' ev r.1) ∧ Hid (FOwn w' w.heap.size fv r.2.1) ∧ Hid (TOwn w' w.heap.size lv zs) ∧ Hid (zs.map bl = r.2.2.1 ∧ zs.length ≤ 20) ∧ Hid (HeldIs w' Bh hb r.2.2.2.1) ∧ Hid (NetIs w' Bn nb r.2.2.2.2 (t + 20)) ∧ Hid (FetchFrame nb hb Bn Bh w w')

set_option maxHeartbeats 4000000 in
set_option maxRecDepth 100000 in
theorem fetch_any {E : Nat → Addr} (Bn nb Bh hb t : Nat) (n : NetB) (hd : HeldB) (v : Value) (l : List RuleB) (x : WantB) (w : World) (h : NetIs w Bn nb n t) (hh : HeldIs w Bh hb hd) (hap : nb + 2 ≤ hb) (hBB : Bn ≤ Bh) (ht : t + 20 < 1000000000) (hl : l.length ≤ 1000) (hs : ∀ r ∈ l, Small r) (hx : AskW x) (hv : RulesRow w v l) (hBw : Bh ≤ w.heap.size) (hEB : ∀ W, Below Bn w W → FtEnv E W) (hG : ∀ k, k < 13 → gE k < Bn) :
    Calls Tryz.prog 18 #[.pointer (some ⟨hb, 0, none⟩), .pointer (some ⟨nb, 0, none⟩), v, .agg #[.string x.name, .string x.url, .string x.kind, .int .i64 x.strip, .int .i64 x.sum]] w (FetchPost E Bn nb Bh hb t (fetchF hd n (l.map ruleOf) x) w) := by
  have hBn : Bn ≤ w.heap.size := Nat.le_trans hBB hBw
  obtain ⟨px, hpx⟩ : ∃ px, w.heap.size = px := ⟨_, rfl⟩
  obtain ⟨wx, hwx⟩ : ∃ wx, w.alloc (.cells #[.string x.name, .string x.url, .string x.kind, .int .i64 x.strip, .int .i64 x.sum] 25) = wx := ⟨_, rfl⟩
  have hbx : Below w.heap.size w wx := by rw [← hwx]; exact (Below.refl _ _).alloc (Nat.le_refl _) _
  have BX := Lib.hid (show WBox wx px x by rw [← hwx, ← hpx]; exact WBox.new w x)
  have HB := Lib.hid hbx
  have HEB := Lib.hid hEB
  have HWX := Lib.hid hwx
  have HPX := Lib.hid hpx
  have HX := Lib.hid hx
  have HG := Lib.hid hG
  have HS := Lib.hid hs
  have HV0 := Lib.hid (hv.ext hbx)
  have HN0 := Lib.hid (h.below hbx)
  have HH0 := Lib.hid (hh.below hbx)
  have C := Lib.hid (fetchRight_any v l x wx hl hs hx (hv.ext hbx) (hEB wx (hbx.mono hBn)))
  obtain ⟨c0, c1, c2, c3, c4⟩ := BX.out.cells
  clear hpx hwx hbx hEB hx hv h hh hG hs
  go_enter Tryz.func18, Tryz.ntmps18
  go_upto_region 1 with fail
  rw [HWX.out, HPX.out]
  go_wp2_with fail
  refine C.out.mono ?_
  clear C c0 c1 c2 c3 c4
  intro e w1 hpost
  unfold AskPost at hpost
  obtain ⟨⟨ev, rfl, HV⟩, hb1⟩ := hpost
  have B1 := Lib.hid (HB.out.trans (hb1.mono HB.out.size))
  have HN1 := Lib.hid (HN0.out.below hb1)
  have HH1 := Lib.hid (HH0.out.below hb1)
  have HV1 := Lib.hid (HV0.out.ext hb1)
  have BX1 := Lib.hid (BX.out.ext hb1)
  clear HN0 HH0 HV0 BX
  by_cases h0 : (askE (l.map ruleOf) x).code = 0
  rotate_left
  · have HA := Lib.hid (fetchF_ask (h := hd) (n := n) h0)
    obtain ⟨ty, y, rfl⟩ := HV.out.some_inv h0
    have HN2 := Lib.hid (HN1.out.later (Nat.le_add_right t 20))
    clear h0
    go_wp2_with fail
    go_ret3
    rw [HA.out]
    exact ⟨_, _, _, [], rfl, HV, FOwn.nil _ _, TOwn.nil _ _, ⟨rfl, Nat.zero_le _⟩, HH1, HN2, ⟨w1, KeepsU.of B1.out hBn, KeepsU.refl _ _ _ _ _⟩⟩
  obtain rfl : ev = .nilIface := HV.out.zero h0
  have hok := askE_want h0
  have hsum := hok.sum
  have HOK := Lib.hid hok
  have HAK := Lib.hid h0
  obtain ⟨c0, c1, c2, c3, c4⟩ := BX1.out.cells
  have C := Lib.hid (heldGet_any Bh hb hd x.sum (by unfold I64; omega) w1 HH1.out (HEB.out w1 (B1.out.mono hBn)).env)
  clear hb1 h0 hok HV
  go_wp2_with fail
  refine C.out.mono ?_
  clear C
  intro e w2 hpost
  unfold HGetPost at hpost
  obtain ⟨hpost, hb2⟩ := hpost
  have B2 := Lib.hid (B1.out.trans (hb2.mono B1.out.size))
  have HN2 := Lib.hid (HN1.out.below hb2)
  have HH2 := Lib.hid (HH1.out.below hb2)
  have HV2 := Lib.hid (HV1.out.ext hb2)
  have BX2 := Lib.hid (BX1.out.ext hb2)
  clear HN1 HH1 HV1 BX1 hb2 c0 c1 c2 c3 c4
  rcases hpost with ⟨tr, ov, ho, rfl, HO⟩ | ⟨ho, rfl⟩
  · have HA := Lib.hid (fetchF_held (h := hd) (n := n) HAK.out ho)
    clear ho
    go_wp2_with fail
    go_ret3
    rw [HA.out]
    have hal : Below w2.heap.size w2 (w2.alloc (.cells #[.string ⟨#[104, 101, 108, 100]⟩] 9)) := (Below.refl _ _).alloc (Nat.le_refl _) _
    refine ⟨_, _, _, [⟨#[104, 101, 108, 100]⟩], rfl, .inl ⟨rfl, rfl⟩, (FOwn.low HO.out B1.out.size).ext hal, ?_, ⟨rfl, by decide⟩, HH2.out.below hal, (HN2.out.below hal).later (Nat.le_add_right t 20), ⟨_, KeepsU.of (B2.out.trans (hal.mono B2.out.size)) hBn, KeepsU.refl _ _ _ _ _⟩⟩
    exact World.ownsRow_lit w2 #[.string ⟨#[104, 101, 108, 100]⟩] 1 B2.out.size (by decide) rfl
  have HA := Lib.hid (fetchF_from (h := hd) (n := n) HAK.out ho)
  have hBn2 : Bn ≤ w2.heap.size := Nat.le_trans hBn B2.out.size
  obtain ⟨c0, c1, c2, c3, c4⟩ := BX2.out.cells
  have C := fetchTry_any Bn nb t n v l x w2 HN2.out ht hl HS.out HX.out HV2.out hBn2 (fun W hW => HEB.out W ((B2.out.mono hBn).trans hW)) HG.out
  have HFI := Lib.hid (@tryF_fine n (l.map ruleOf) x)
  have HBA := Lib.hid (@tryF_bad n (l.map ruleOf) x)
  obtain ⟨r, hr⟩ : ∃ r, tryF n (l.map ruleOf) x = r := ⟨_, rfl⟩
  rw [hr] at C HA HFI HBA
  obtain ⟨er, fs, ls, n'⟩ := r
  unfold TryPost at C
  dsimp only at C HA HFI HBA
  have HC := Lib.hid C
  clear C ho hr
  go_wp2_with fail
  refine HC.out.mono ?_
  clear HC c0 c1 c2 c3 c4 HN2 HV2 BX2
  rintro e w3 ⟨fv, lv, ev, zs, rfl, HI, HF, HT, HZ, HN, HK⟩
  have HH3 := Lib.hid (HH2.out.apartN HK.out hap)
  have B3 := Lib.hid ((KeepsU.of (K := NetRow) (b := nb) (n := 4) B2.out hBn).trans HK.out)
  have HF3 := Lib.hid (FOwn.low HF.out B2.out.size)
  have HT3 := Lib.hid (HT.out.low B2.out.size)
  clear HH2 HF HT
  by_cases hz : er.code = 0
  · obtain ⟨he, hte, _, _⟩ := HFI.out hz
    obtain rfl : ev = .nilIface := HI.out.zero hz
    have hB3 : Bh ≤ w3.heap.size := Nat.le_trans hBw B3.out.below.size
    have hrl := right_len hte
    have C := Lib.hid (heldPut_any Bh hb hd fv fs w3 (fun w' hk => FOwn.arg (base := w.heap.size) (hk.owns HF3.out heldRow_files)) hrl.1 hrl.2 HH3.out hB3 (HEB.out w3 B3.out.below).1.1)
    have HY : Hid (fetchF hd n (l.map ruleOf) x = (⟨0, none⟩, fs, ls, (putH hd fs).2.2, n')) := by show _ = _; rw [HA.out, if_pos hz, he]
    clear hz he hte hrl HA HFI HBA HI
    go_wp2_with fail
    refine C.out.mono ?_
    clear C
    intro e w4 hpost
    unfold HPutPost at hpost
    obtain ⟨⟨ev2, rfl, hev⟩, hhi, hk, _⟩ := hpost
    have HH4 := Lib.hid hhi
    have HK4 := Lib.hid hk
    clear hhi hk hev
    go_wp2_with fail
    go_ret3
    rw [HY.out]
    exact ⟨_, _, _, zs, rfl, .inl ⟨rfl, rfl⟩, HK4.out.toKeeps.owns HF3.out heldRow_files, HK4.out.toKeeps.owns HT3.out kh_str, HZ, HH4, HN.out.apartH HK4.out hap, ⟨w3, B3.out, HK4.out⟩⟩
  · obtain ⟨ty, y, rfl⟩ := HI.out.some_inv hz
    have HY : Hid (fetchF hd n (l.map ruleOf) x = (er, fs, ls, hd, n')) := by show _ = _; rw [HA.out, if_neg hz]
    clear hz HA HFI HBA
    go_wp2_with fail
    go_ret3
    rw [HY.out]
    exact ⟨_, _, _, zs, rfl, HI, HF3, HT3, HZ, HH3, HN, ⟨w3, B3.out, KeepsU.refl _ _ _ _ _⟩⟩
end Go.Proofs.YtomceddfbfpjjaaGreatDoor

namespace Go.Proofs.YtomceddfbfpjjaaGreatDoor
open Go Go.RowKit

theorem longW_ask {x : WantB} (h : longW x = 0) : AskW x := by
  unfold longW at h
  split at h
  · cases h
  · rename_i h1; exact ⟨by omega, by omega⟩
/-- What longAsk answers. -/
def LAskPost (l : List RuleB) (x : WantB) (w : World) (e : Ending) (w' : World) : Prop := (∃ r : Bool, e = .returned (.bool r) ∧ Hid (r = false → l.length ≤ 12 ∧ (∀ r ∈ l, Small r) ∧ AskW x)) ∧ Below w.heap.size w w'
set_option maxHeartbeats 1000000 in
set_option maxRecDepth 100000 in
theorem longAsk_any (v : Value) (l : List RuleB) (x : WantB) (w : World) (hv : RulesRow w v l) :
    Calls Tryz.prog 7 #[v, .agg #[.string x.name, .string x.url, .string x.kind, .int .i64 x.strip, .int .i64 x.sum]] w (LAskPost l x w) := by
  obtain ⟨px, hpx⟩ : ∃ px, w.heap.size = px := ⟨_, rfl⟩
  obtain ⟨wx, hwx⟩ : ∃ wx, w.alloc (.cells #[.string x.name, .string x.url, .string x.kind, .int .i64 x.strip, .int .i64 x.sum] 25) = wx := ⟨_, rfl⟩
  have hbx : Below w.heap.size w wx := by rw [← hwx]; exact (Below.refl _ _).alloc (Nat.le_refl _) _
  have BX := Lib.hid (show WBox wx px x by rw [← hwx, ← hpx]; exact WBox.new w x)
  have HB := Lib.hid hbx
  have HWX := Lib.hid hwx
  have HPX := Lib.hid hpx
  have C := Lib.hid (longRules_any v l wx (hv.ext hbx))
  have C2 := Lib.hid (longWant_any x wx)
  obtain ⟨c0, c1, c2, c3, c4⟩ := BX.out.cells
  clear hpx hwx hbx hv
  go_enter Tryz.func7, Tryz.ntmps7
  go_upto_region 1 with fail
  rw [HWX.out, HPX.out]
  go_wp2_with fail
  refine C.out.mono ?_
  clear C
  intro e w1 hpost
  unfold LongPost at hpost
  obtain ⟨⟨n, rfl, hn, HL⟩, rfl⟩ := hpost
  rcases hn with rfl | rfl
  · have HLL := Lib.hid (HL.out rfl)
    go_wp2_with fail
    refine C2.out.mono ?_
    clear C2
    rintro e w2 ⟨rfl, hb2⟩
    have HLA := Lib.hid (@longW_ask x)
    obtain ⟨k, hk⟩ : ∃ k, longW x = k := ⟨_, rfl⟩
    rw [hk] at HLA ⊢
    clear hk
    by_cases hz : k = 0
    · subst hz
      go_wp2_with fail
      go_ret
      exact ⟨⟨_, rfl, fun _ => ⟨HLL.out.1, HLL.out.2, HLA.out (by first | rfl | trivial)⟩⟩, HB.out.trans (hb2.mono HB.out.size)⟩
    · have hpos : (0 : Int) < (k : Int) := by omega
      go_wp2_with fail
      go_ret
      exact ⟨⟨_, rfl, fun h => by first | cases h | (simp at h; omega)⟩, HB.out.trans (hb2.mono HB.out.size)⟩
  · go_wp2_with fail
    go_ret
    exact ⟨⟨_, rfl, fun h => by cases h⟩, HB.out⟩

set_option maxHeartbeats 4000000 in
set_option maxRecDepth 100000 in
theorem fetched_any {E : Nat → Addr} (w : World) (hE : FtEnv E w) :
    Calls Tryz.prog 5 #[] w fun e w' => e = .returned (.bool true) ∧ Below w.heap.size w w' := by
  have HE := Lib.hid hE
  have HG := Lib.hid (gE_lt hE.env)
  have C := Lib.hid (netNew_any w)
  clear hE
  go_enter Tryz.func5, Tryz.ntmps5
  go_wp2_with fail
  refine C.out.mono ?_
  clear C
  rintro e w1 ⟨b, rfl, HN1, hb1⟩
  obtain ⟨p, hp⟩ : ∃ p, w1.heap.size = p := ⟨_, rfl⟩
  obtain ⟨wa, hwa⟩ : ∃ wa, w1.alloc (.cells #[.string ⟨#[97]⟩, .bool false, .string ⟨#[104, 105]⟩] 68) = wa := ⟨_, rfl⟩
  have hal : Below w1.heap.size w1 wa := by rw [← hwa]; exact (Below.refl _ _).alloc (Nat.le_refl _) _
  have HT : Hid (FOwn wa p (.slice (some ⟨p, 0, none⟩) 1 1) fetT) := by show FOwn _ _ _ _; rw [← hwa, ← hp]; exact one_own w1 ⟨⟨#[97]⟩, false, hiB⟩
  have B1 := Lib.hid (hb1.trans (hal.mono hb1.size))
  have HNa := Lib.hid (HN1.below hal)
  have HWA := Lib.hid hwa
  have HP := Lib.hid hp
  have C := packSum_any _ fetT wa HT.out.row (by decide) (fun f hf => by obtain rfl := List.mem_singleton.1 hf; exact ⟨by decide, by decide⟩) (HE.out.ext B1.out).1.1
  unfold PSumPost at C
  rw [fetT_er] at C
  obtain ⟨s, hs⟩ : ∃ s : Int, ((sumL (packT fetT) : Nat) : Int) = s := ⟨_, rfl⟩
  rw [hs] at C
  have HC := Lib.hid C
  have HSS : Hid (fetW = ⟨⟨#[97]⟩, urlHx, ⟨#[112, 108, 97, 105, 110]⟩, 0, s⟩) := by show _ = _; unfold fetW; rw [← hs]; rfl
  clear C HN1 hal hwa hp hb1 hs
  go_wp2_with fail
  rw [HWA.out, HP.out]
  refine HC.out.mono ?_
  clear HC
  rintro e w2 ⟨⟨ev, rfl, HI⟩, hb2⟩
  obtain rfl : ev = .nilIface := HI.out.zero rfl
  have B2 := Lib.hid (B1.out.trans (hb2.mono B1.out.size))
  have HN2 := HNa.out.below hb2
  have C := netPut_any w.heap.size b 0 ⟨[], [], 0⟩ urlHx hiB w2 HN2 (by decide) (by decide) B2.out.size (HE.out.ext B2.out).net
  rw [put_hx] at C
  unfold NetPost at C
  dsimp only at C
  rw [show errV E 0 = .nilIface from rfl] at C
  have HC := Lib.hid C
  clear C HN2 HNa HI hb2
  go_wp2_with fail
  refine HC.out.mono ?_
  clear HC
  rintro e w3 ⟨rfl, HN3, HK3⟩
  have B3 := Lib.hid (B2.out.trans (HK3.below.mono (Nat.le_refl _)))
  have HN3h := Lib.hid HN3
  have C := Lib.hid (heldNew_any 3 w3)
  clear HN3 HK3
  go_wp2_with fail
  refine C.out.mono ?_
  clear C
  rintro e w4 ⟨hb, rfl, HH4, hb4⟩
  have B4 := Lib.hid (B3.out.trans (hb4.mono B3.out.size))
  have HN4 := HN3h.out.below hb4
  have hnl := HN3h.out.lt
  have hhl := HH4.le
  have C := fetch_any w.heap.size b w3.heap.size hb 1 fetN (newH 3) (.slice none 0 0) [] fetW w4 HN4 HH4 (by omega) B3.out.size (by decide) (by decide) (fun r hr => by cases hr) ⟨by decide, by decide⟩ ⟨none, 0, rfl, Nat.le_refl _, Nat.zero_le _, fun i hi => absurd hi (Nat.not_lt_zero _)⟩ hb4.size (fun W hW => HE.out.ext (B4.out.trans hW)) HG.out
  obtain ⟨h1, h2, h3⟩ := fet_fetch
  unfold FetchPost at C
  rw [show ([] : List RuleB).map ruleOf = [] from rfl, h1, h2, h3, HSS.out] at C
  have HC := Lib.hid C
  clear C HN4 hnl hhl h1 h2 h3 HN3h hb4 HH4
  go_wp2_with fail
  refine HC.out.mono ?_
  clear HC
  rintro e w5 ⟨fv, lv, ev, zs, rfl, HI, HF, HT5, HZ, _, _, HFR⟩
  obtain rfl : ev = .nilIface := HI.out.zero rfl
  have hb5 : Below w.heap.size w4 w5 := HFR.out.below B3.out.size
  have B5 := Lib.hid (B4.out.trans hb5)
  obtain ⟨fo, fc, hfv, hf1, hf2, hf3⟩ := HF.out.row
  obtain ⟨fb, foff, rfl, hfl, hfc⟩ := hf3 0 (by decide)
  obtain ⟨_, _, q2⟩ := hfc 0 (by decide)
  rw [show fetT.length = 1 from rfl] at hfv hf1
  subst hfv
  have q2' : w5.cell? ⟨fb, foff + 0 * 3 + 2, none⟩ = some (.string ⟨#[104, 105]⟩) := q2
  have q3 : w5.cell? ⟨fb, foff + 2, none⟩ = some (.string ⟨#[104, 105]⟩) := q2
  have hzs : zs = [okHx] := by
    have h1 := HZ.out.1
    have key : ∀ l : List ByteArray, l.map bl = [bl okHx] → l = [okHx] := fun l hl => by
      rcases l with _ | ⟨z, _ | ⟨z2, r⟩⟩
      · cases hl
      · injection hl with h _
        rw [bl_inj h]
      · injection hl with _ h
        cases h
    exact key zs h1
  subst hzs
  obtain ⟨lo, lc, rfl⟩ := HT5.out.shape
  have hal5 : Below w5.heap.size w5 (w5.alloc (.cells #[.string ⟨#[104, 116, 116, 112, 58, 47, 47, 104, 47, 120, 32, 111, 107]⟩] 9)) := (Below.refl _ _).alloc (Nat.le_refl _) _
  have C := Lib.hid (sameTexts_same (HT5.out.ext hal5).row (TOwn.row (zs := [okHx]) (World.ownsRow_lit (base := 0) (e := 9) (size := 1) w5 #[.string ⟨#[104, 116, 116, 112, 58, 47, 47, 104, 47, 120, 32, 111, 107]⟩] 1 (Nat.zero_le _) (by decide) rfl)) rfl (by decide))
  have HAL5 := Lib.hid hal5
  have e0 : (({ data := #[104, 105] } : ByteArray).toList == ({ data := #[104, 105] } : ByteArray).toList) = true := beq_self_eq_true _
  clear hf2 hfc hal5 HF HT5 q2 hb5 HI
  go_wp2_with fail
  refine C.out.mono ?_
  clear C
  rintro e w6 ⟨rfl, hb6⟩
  go_wp2_with fail
  go_ret
  exact ⟨rfl, B5.out.trans ((HAL5.out.trans (hb6.mono HAL5.out.size)).mono B5.out.size)⟩
end Go.Proofs.YtomceddfbfpjjaaGreatDoor
