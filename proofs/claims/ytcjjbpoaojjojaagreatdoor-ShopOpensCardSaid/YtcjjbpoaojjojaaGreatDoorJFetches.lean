/- The law's own small word: chandlerylaw3.coded; an error's value by its number. fetch.right, fetch.one; the reference's askFault: contracts. The text of a laid error: errors' Error, and the reference's ErrorText. fetch.Try: the contract. The reference's TryOf: the contract. fetch.Fetch: the contract. Where a held tree lies, in the reference's held. The reference's FetchOf: the contract. chandlerylaw3.faulted. -/
import Derived.Test.YtcjjbpoaojjojaaGreatDoorJToldEtc
import Derived.Test.YtcjjbpoaojjojaaGreatDoorJPathedEtc
import Derived.Test.YtcjjbpoaojjojaaGreatDoorJFetchPlains
import Derived.Test.YtcjjbpoaojjojaaGreatDoorJNetEnds
import Derived.Test.YtcjjbpoaojjojaaGreatDoorJMirrorUp
import Derived.Test.YtcjjbpoaojjojaaGreatDoorJWantAll
import Derived.Test.YtcjjbpoaojjojaaGreatDoorJRefWants
import Derived.Test.YtcjjbpoaojjojaaGreatDoorJRefMirror
import Derived.Test.YtcjjbpoaojjojaaGreatDoorJFilesEtc
import Derived.Test.YtcjjbpoaojjojaaGreatDoorJRefTreeUp
import Derived.BigQuiet
import Derived.Test.YtcjjbpoaojjojaaGreatDoorJErrors
import Derived.Test.YtcjjbpoaojjojaaGreatDoorJRowedEtc
import Derived.Test.YtcjjbpoaojjojaaGreatDoorJPlainly
import Derived.Deep.RegionHeld3
import Derived.Laws.OwnMore
import Derived.Test.YtcjjbpoaojjojaaGreatDoorJRefHeldUp
import Derived.Test.YtcjjbpoaojjojaaGreatDoorJHeldEnds
namespace Go.Proofs.YtcjjbpoaojjojaaGreatDoor
open Go Go.RowKit

/-- coded: an error's number, without a place. -/
def codedB3 (er : Er) (c : Int) : Bool := (er.code : Int) == c && er.at?.getD (-1) == -1

theorem codedThree_any {E : Nat → Addr} {w : World} {v : Value} {er : Er} (hE : Env E w) (hv : IsErr E w v er) (c : Int) : Calls Tryz.prog 11 #[v, .int .i64 c] w fun e w' =>
    e = .returned (.bool (codedB3 er c)) ∧ Below w.heap.size w w' := by
  have hc := Lib.hid (code_any hE hv)
  have hfin : codedB3 er c = ((er.code : Int) == c && er.at?.getD (-1) == -1) := rfl
  have HF := Lib.hid hfin; clear hfin hE hv
  generalize hk : (er.code : Int) = k at hc HF
  generalize ha : er.at?.getD (-1) = a at hc HF
  clear hk ha
  generalize codedB3 er c = r at HF ⊢
  cases h1 : (k == c)
  · go_enter Tryz.func11, Tryz.ntmps11
    go_wp2_with fail
    refine hc.out.mono ?_
    rintro e w' ⟨rfl, hb⟩
    go_wp2_with fail
    go_ret
    exact ⟨by rw [HF.out, h1]; rfl, hb⟩
  · go_enter Tryz.func11, Tryz.ntmps11
    go_wp2_with fail
    refine hc.out.mono ?_
    rintro e w' ⟨rfl, hb⟩
    go_wp2_with fail
    go_ret
    exact ⟨by rw [HF.out, h1]; simp, hb⟩

theorem isErr_errV3 {E : Nat → Addr} {w : World} {c : Nat} (h : c ≤ 13) : IsErr E w (errV E c) ⟨c, none⟩ := by
  cases c with
  | zero => exact IsErr.nil E w
  | succ k => exact IsErr.base E w k (by omega)
theorem errCoded3 {E : Nat → Addr} {w : World} {c : Nat} (hE : Env E w) (h : c ≤ 13) : Calls Tryz.prog 11 #[errV E c, .int .i64 c] w fun e w' => e = .returned (.bool true) ∧ Below w.heap.size w w' := by
  refine (codedThree_any hE (isErr_errV3 h) c).mono ?_
  rintro e w' ⟨rfl, hb⟩
  refine ⟨?_, hb⟩
  have : codedB3 ⟨c, none⟩ (c : Int) = true := by unfold codedB3; simp
  rw [this]
end Go.Proofs.YtcjjbpoaojjojaaGreatDoor

namespace Go.Proofs.YtcjjbpoaojjojaaGreatDoor
open Go Go.RowKit

/-- The environment of fetching. -/
def FtEnv (E : Nat → Addr) (w : World) : Prop := REnv E w ∧ LEnv E w
theorem FtEnv.ext {E : Nat → Addr} {w w' : World} (h : FtEnv E w) (hb : Below w.heap.size w w') : FtEnv E w' := ⟨h.1.ext hb, h.2.ext hb⟩
theorem FtEnv.env {E : Nat → Addr} {w : World} (h : FtEnv E w) : Env E w := h.1.1.1.1
theorem FtEnv.net {E : Nat → Addr} {w : World} (h : FtEnv E w) : NEnv E w := ⟨h.1.1.1.1, h.2⟩
theorem WBox.keep {K : Obj → Prop} {B : Nat} {w w' : World} {p : Nat} {x : WantB} (h : WBox w p x) (hk : Keeps K B w w') (h1 : ∀ cs, ¬ K (.cells cs 60 (0, 0))) : WBox w' p x := hk.keep p _ h (h1 _)
theorem errV_is {E : Nat → Addr} {w : World} {c : Nat} (h : c ≤ 13) : IsErr E w (errV E c) ⟨c, none⟩ := by
  cases c with
  | zero => exact .inl ⟨rfl, rfl⟩
  | succ c => exact .inr (.inl ⟨c, by omega, rfl, rfl⟩)
end Go.Proofs.YtcjjbpoaojjojaaGreatDoor

namespace Go.Proofs.YtcjjbpoaojjojaaGreatDoor
open Go Go.RowKit

end Go.Proofs.YtcjjbpoaojjojaaGreatDoor

namespace Go.Proofs.YtcjjbpoaojjojaaGreatDoor
open Go Go.RowKit

/-- Lines of one's own. -/
def TOwn (w : World) (base : Nat) (v : Value) (zs : List ByteArray) : Prop := w.ownsRow base 9 1 v zs.length (zs.map Value.string)
theorem TOwn.nil (w : World) (base : Nat) : TOwn w base (.slice none 0 0) [] := World.ownsRow_nil _ _ _ _
theorem TOwn.ext {w w' : World} {base : Nat} {v : Value} {zs : List ByteArray} (h : TOwn w base v zs) (hb : Below w.heap.size w w') : TOwn w' base v zs := owns_below h hb
theorem TOwn.low {w : World} {base B : Nat} {v : Value} {zs : List ByteArray} (h : TOwn w base v zs) (hB : B ≤ base) : TOwn w B v zs := ownsRow_low h hB
theorem TOwn.keeps {K : Obj → Prop} {w w' : World} {base B : Nat} {v : Value} {zs : List ByteArray} (h : TOwn w base v zs) (hk : Keeps K B w w') (h1 : ∀ cs, ¬ K (.cells cs 9 (0, 0))) : TOwn w' base v zs := hk.owns h h1
theorem TOwn.row {w : World} {base : Nat} {v : Value} {zs : List ByteArray} (h : TOwn w base v zs) : Row encStr 1 w v zs := row_of_own h
theorem TOwn.shape {w : World} {base : Nat} {v : Value} {zs : List ByteArray} (h : TOwn w base v zs) : ∃ ao cap, v = .slice ao zs.length cap := by
  rcases h.2 with ⟨rfl, h0⟩ | ⟨g, cap, cur, rfl, _⟩
  · exact ⟨none, 0, by rw [h0]⟩
  · exact ⟨_, _, rfl⟩
theorem KeepsU.fresh {n b : Nat} {K : Obj → Prop} {B : Nat} {w a c : World} (h : KeepsU n b K B w a) (hb : Below w.heap.size a c) (hB : B ≤ w.heap.size) : KeepsU n b K B w c :=
  ⟨h.toKeeps.fresh hb hB, fun k hk hs => (hb.block k hk).trans (h.span k hk hs)⟩
/-- Texts at a place. -/
def WaysAt (w : World) (c off : Nat) (xs : List ByteArray) : Prop := ∀ i, (hi : i < xs.length) → w.cell? ⟨c, off + i, none⟩ = some (.string xs[i])

end Go.Proofs.YtcjjbpoaojjojaaGreatDoor

namespace Go.Proofs.YtcjjbpoaojjojaaGreatDoor
open Go Go.RowKit

/-- Texts in a block of texts. -/
def WaysIn (w : World) (c off : Nat) (xs : List ByteArray) : Prop := (∃ cs, w.heap[c]? = some (.cells cs 9 (0, 0))) ∧ WaysAt w c off xs
theorem WaysIn.same {w w' : World} {c off : Nat} {xs : List ByteArray} (h : WaysIn w c off xs) (hb : w'.heap[c]? = w.heap[c]?) : WaysIn w' c off xs := by
  obtain ⟨⟨cs, h1⟩, h2⟩ := h
  exact ⟨⟨cs, hb.trans h1⟩, fun i hi => (World.cell?_of_block (w := w) (a := ⟨c, off + i, none⟩) hb).trans (h2 i hi)⟩
theorem WaysIn.keeps {K : Obj → Prop} {B : Nat} {w w' : World} {c off : Nat} {xs : List ByteArray} (h : WaysIn w c off xs) (hk : Keeps K B w w') (h1 : ∀ cs, ¬ K (.cells cs 9 (0, 0))) : WaysIn w' c off xs := by
  obtain ⟨cs, h2⟩ := h.1
  exact h.same ((hk.keep c _ h2 (h1 _)).trans h2.symm)
theorem owns_under {w w' : World} {D base size n : Nat} {e : TypeId} {v : Value} {xs : List Value} (h : w.ownsRow base e size v n xs) (hb : Below D w w') (hD : ∀ k, v.ownBlock = some k → k < D) : w'.ownsRow base e size v n xs := by
  refine ⟨h.1, ?_⟩
  rcases h.2 with h0 | ⟨g, cap, cur, rfl, hbs, hg, hr⟩
  · exact .inl h0
  · exact .inr ⟨g, cap, cur, rfl, hbs, by rw [hb.block g (hD g rfl)]; exact hg, hr⟩
theorem RNetAt.under {w w' : World} {B m D : Nat} {n : NetB} {vL vO : Value} (h : RNetAt w B m n vL vO) (hb : Below D w w') (hm : m < D) (hL : ∀ k, vL.ownBlock = some k → k < D) (hO : ∀ k, vO.ownBlock = some k → k < D) : RNetAt w' B m n vL vO :=
  ⟨h.hm, by rw [hb.block m hm]; exact h.blk, owns_under h.sites hb hL, owns_under h.offs hb hO⟩
theorem FaultAt.under {w w' : World} {D q : Nat} {c a : Int} (h : FaultAt w q c a) (hb : Below D w w') (hq : q < D) : FaultAt w' q c a := (hb.block q hq).trans h
theorem WBox.under {w w' : World} {D p : Nat} {x : WantB} (h : WBox w p x) (hb : Below D w w') (hp : p < D) : WBox w' p x := (hb.block p hp).trans h
end Go.Proofs.YtcjjbpoaojjojaaGreatDoor

namespace Go.Proofs.YtcjjbpoaojjojaaGreatDoor
open Go Go.RowKit

/-- First the net's blocks are turned, then the held's. -/
def FetchFrame (nb hb Bn Bh : Nat) (w w' : World) : Prop := ∃ w5, KeepsU 4 nb NetRow Bn w w5 ∧ KeepsU 2 hb HeldRow Bh w5 w'
theorem FetchFrame.below {nb hb Bn Bh : Nat} {w w' : World} (h : FetchFrame nb hb Bn Bh w w') (hB : Bn ≤ Bh) : Below Bn w w' := by
  obtain ⟨w5, h1, h2⟩ := h
  exact h1.below.trans (h2.below.mono hB)
end Go.Proofs.YtcjjbpoaojjojaaGreatDoor

namespace Go.Proofs.YtcjjbpoaojjojaaGreatDoor
open Go Go.RowKit Go.Maps

theorem has_get {h : HeldB} {n : Int} : (ixOf n h.sums).isSome = (getL h.trees n).isSome := by
  rw [Bool.eq_iff_iff]
  constructor
  · intro hs
    obtain ⟨l, hl⟩ := getL_mem (ixOf_isSome.1 hs)
    rw [hl]; rfl
  · intro hs
    obtain ⟨t, ht⟩ := Option.isSome_iff_exists.1 hs
    exact ixOf_isSome.2 (List.mem_map.2 ⟨_, getL_some ht, rfl⟩)
/-- Where a held tree lies. -/
theorem RHeldIs.tree {W0 w : World} {B b : Nat} {h : HeldB} (hi : RHeldIs W0 w B b h) (ok : HeldOk h) {n : Int} {t : List FileB} (hg : getL h.trees n = some t) :
    ∃ (k g cap : Nat) (tv : Value), ixOf n h.sums = some k ∧ k < h.trees.length ∧ w.cell? ⟨b, 1, none⟩ = some (.slice (some ⟨g, 0, none⟩) h.trees.length cap) ∧ w.cell? ⟨g, k * 2 + 1, none⟩ = some tv ∧ TreeV W0 w B tv t := by
  have hs : (ixOf n h.sums).isSome = true := by rw [has_get, hg]; rfl
  obtain ⟨k, hk⟩ := Option.isSome_iff_exists.1 hs
  obtain ⟨lv, vs, hA, hV⟩ := hi
  obtain ⟨hk1, hk2, hk3⟩ := ixOf_some hk
  have hkt : k < h.trees.length := by unfold HeldB.sums at hk1; rwa [List.length_map] at hk1
  have hkv : k < vs.length := by rw [hV.len]; exact hkt
  obtain ⟨ao, cap, rfl, _, _, _, H3⟩ := trees_parts hA.row
  obtain ⟨g, rfl, _, hcell⟩ := H3 k hkv
  obtain ⟨_, c1, _⟩ := rheld_ready hA.blk
  obtain ⟨h1, h2⟩ := hV.at k hkv hkt
  refine ⟨k, g, cap, vs[k].2, hk, hkt, by rw [c1, hV.len], (hcell k hkv).2, ?_⟩
  have e : h.trees[k].2 = t := by
    have hn : h.trees[k].1 = n := by
      rw [← hk2]; simp [HeldB.sums]
    have := getL_at hkt ok.nodup
    rw [hn] at this
    rw [hg] at this
    exact (Option.some.inj this).symm
  rw [← e]; exact h2

end Go.Proofs.YtcjjbpoaojjojaaGreatDoor

namespace Go.Proofs.YtcjjbpoaojjojaaGreatDoor
open Go Go.RowKit

theorem kf_map (es : Array MapEntry) (c : Nat) : ¬ FaultRow (.map es c) := fun ⟨_, _, h⟩ => by cases h
theorem kf_net (cs : Array Value) (fz : Nat × Nat) : ¬ FaultRow (.cells cs 90 fz) := fun ⟨_, _, h⟩ => by injection h with _ h _; exact absurd h (by decide)
theorem kf_held (cs : Array Value) (fz : Nat × Nat) : ¬ FaultRow (.cells cs 145 fz) := fun ⟨_, _, h⟩ => by injection h with _ h _; exact absurd h (by decide)
theorem kf_int (cs : Array Value) : ¬ FaultRow (.cells cs 3 (0, 0)) := fun ⟨_, _, h⟩ => by injection h with _ h _; exact absurd h (by decide)
theorem kf_str (cs : Array Value) : ¬ FaultRow (.cells cs 9 (0, 0)) := fun ⟨_, _, h⟩ => by injection h with _ h _; exact absurd h (by decide)
theorem kf_file (cs : Array Value) : ¬ FaultRow (.cells cs 149 (0, 0)) := fun ⟨_, _, h⟩ => by injection h with _ h _; exact absurd h (by decide)
theorem kf_rnet (cs : Array Value) : ¬ FaultRow (.cells cs 44 (0, 0)) := fun ⟨_, _, h⟩ => by injection h with _ h _; exact absurd h (by decide)
theorem kf_site (cs : Array Value) : ¬ FaultRow (.cells cs 272 (0, 0)) := fun ⟨_, _, h⟩ => by injection h with _ h _; exact absurd h (by decide)
theorem RNetIs.faulted {w : World} {B m g : Nat} {n : NetB} {c a : Int} (h : RNetIs w B m n) (hg : FaultAt w g c a) (x y : Value) : RNetIs ((w.setCell ⟨g, 0, none⟩ x).setCell ⟨g, 1, none⟩ y) B m n := h.keeps (fault_keeps hg x y) kf_rnet kf_site kf_str
/-- First the net is turned, then the held, then a fault. -/
def RFrame (Bm Bk : Nat) (w w' : World) : Prop := ∃ w5 w6, Keeps RNetRow Bm w w5 ∧ Keeps RHeldRow Bk w5 w6 ∧ Keeps FaultRow Bk w6 w' ∧ Below w.heap.size w6 w'
theorem RFrame.below {Bm Bk B : Nat} {w w' : World} (h : RFrame Bm Bk w w') (h1 : B ≤ Bm) (h2 : B ≤ Bk) : Below B w w' := by
  obtain ⟨w5, w6, k1, k2, k3, _⟩ := h
  exact ((k1.below.mono h1).trans (k2.below.mono h2)).trans (k3.below.mono h2)
theorem RFrame.net {Bm Bk B b t : Nat} {w w' : World} {n : NetB} (h : RFrame Bm Bk w w') (hn : NetIs w B b n t) : NetIs w' B b n t := by
  obtain ⟨w5, w6, k1, k2, k3, _⟩ := h
  exact ((hn.keepR k1).keepQ k2).keeps k3 kf_map kf_net
theorem RFrame.held {Bm Bk B b : Nat} {w w' : World} {hd : HeldB} (h : RFrame Bm Bk w w') (hn : HeldIs w B b hd) : HeldIs w' B b hd := by
  obtain ⟨w5, w6, k1, k2, k3, _⟩ := h
  exact ((hn.keepR k1).keepQ k2).keeps k3 kf_map kf_held kf_int kf_file
theorem RFrame.files {Bm Bk base : Nat} {w w' : World} {v : Value} {l : List FileB} (h : RFrame Bm Bk w w') (hn : FOwn w base v l) : FOwn w' base v l := by
  obtain ⟨w5, w6, k1, k2, k3, _⟩ := h
  exact k3.owns (k2.owns (k1.owns hn kr_file) kq_file) kf_file
theorem kq_fault (cs : Array Value) (fz : Nat × Nat) : ¬ RHeldRow (.cells cs 38 fz) := fun ⟨_, _, h⟩ => by injection h with _ h _; exact absurd h (by decide)
theorem RFrame.fault {Bm Bk q : Nat} {w w' : World} {c a : Int} (h : RFrame Bm Bk w w') (hq : FaultAt w q c a) : FaultAt w' q c a := by
  obtain ⟨w5, w6, k1, k2, k3, k4⟩ := h
  have h5 : FaultAt w5 q c a := k1.keep q _ hq (kr_fault _ _)
  have h6 : FaultAt w6 q c a := k2.keep q _ h5 (kq_fault _ _)
  exact (k4.block q hq.lt).trans h6
end Go.Proofs.YtcjjbpoaojjojaaGreatDoor

namespace Go.Proofs.YtcjjbpoaojjojaaGreatDoor
open Go Go.RowKit

/-- faulted: an error's number and place. -/
def faultB3 (er : Er) (c a : Int) : Bool := (er.code : Int) == c && ((er.code : Int) == 0 || er.at?.getD (-1) == a)

theorem faulted3_any {E : Nat → Addr} {w : World} {v : Value} {er : Er} (hE : Env E w) (hv : IsErr E w v er) (c a : Int) : Calls Tryz.prog 13 #[v, .agg #[.int .i64 c, .int .i64 a]] w fun e w' =>
    e = .returned (.bool (faultB3 er c a)) ∧ Below w.heap.size w w' := by
  have hc := Lib.hid (code_any (hE.ext ((Below.refl _ _).alloc (Nat.le_refl _) (.cells #[.int .i64 c, .int .i64 a] 38))) (hv.ext ((Below.refl _ _).alloc (Nat.le_refl _) _)))
  have hfin : faultB3 er c a = ((er.code : Int) == c && ((er.code : Int) == 0 || er.at?.getD (-1) == a)) := rfl
  have HF := Lib.hid hfin; clear hfin hE hv
  generalize hk : (er.code : Int) = k at hc HF
  generalize ha : er.at?.getD (-1) = b at hc HF
  clear hk ha
  generalize faultB3 er c a = r at HF ⊢
  cases h1 : (k == c)
  all_goals cases h2 : (k == 0)
  all_goals
    go_enter Tryz.func13, Tryz.ntmps13
    go_wp2_with fail
    refine hc.out.mono ?_
    rintro e w' ⟨rfl, hb⟩
    have hb' : Below w.heap.size w w' := ((Below.refl _ _).alloc (Nat.le_refl _) _).trans (hb.mono (by simp))
    have c0 : w'.cell? ⟨w.heap.size, 0, none⟩ = some (.int .i64 c) := by rw [hb.cell (p := ⟨w.heap.size, 0, none⟩) (by simp)]; simp
    have c1 : w'.cell? ⟨w.heap.size, 1, none⟩ = some (.int .i64 a) := by rw [hb.cell (p := ⟨w.heap.size, 1, none⟩) (by simp)]; simp
    clear hb
    go_wp2_with fail
    go_ret
    exact ⟨by rw [HF.out, h1]; simp [h2], hb'⟩
end Go.Proofs.YtcjjbpoaojjojaaGreatDoor
