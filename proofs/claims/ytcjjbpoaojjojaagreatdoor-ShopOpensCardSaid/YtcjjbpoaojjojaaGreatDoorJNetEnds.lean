/- chandlerylaw2.Do: an act on both nets: the contract. Nets and helds, and the reference's, beside one another: frames. chandlerylaw2.netted, LongActs: contracts. -/
import Derived.Test.YtcjjbpoaojjojaaGreatDoorJNetUp
import Derived.Test.YtcjjbpoaojjojaaGreatDoorJRefNetUp
import Derived.Test.YtcjjbpoaojjojaaGreatDoorJToldEtc
import Derived.Deep.RegionHeld3
import Derived.Deep.QuietTactic
import Derived.BigQuiet
import Derived.Test.YtcjjbpoaojjojaaGreatDoorJHeldEnds
import Derived.Test.YtcjjbpoaojjojaaGreatDoorJRefHeldUp
import Derived.IntWalk
namespace Go.Proofs.YtcjjbpoaojjojaaGreatDoor
open Go Go.RowKit

/-- What a statement's input names: kind, URL, S, N, On. -/
structure ActB where
  kind : ByteArray
  url : ByteArray
  s : ByteArray
  n : Int
  on : Bool
def NRRow (o : Obj) : Prop := NetRow o ∨ RNetRow o
theorem Keeps.wide {K L : Obj → Prop} {B : Nat} {w w' : World} (h : Keeps K B w w') (hk : ∀ o, K o → L o) : Keeps L B w w' := ⟨h.below, fun k o ho hn => h.keep k o ho (fun hK => hn (hk o hK))⟩
theorem notR_map (es : Array MapEntry) (c : Nat) : ¬ RNetRow (.map es c) := by
  rintro (⟨c, fz, h⟩ | ⟨c, fz, h⟩) <;> cases h
theorem notR_net (cs : Array Value) (fz : Nat × Nat) : ¬ RNetRow (.cells cs 90 fz) := by
  rintro (⟨c, fz, h⟩ | ⟨c, fz, h⟩) <;> (injection h with _ h3 _; exact absurd h3 (by decide))

/-- First the net's blocks are turned, then the reference's. -/
def Betw (b B : Nat) (w w' : World) : Prop := ∃ w5, KeepsU 4 b NetRow B w w5 ∧ Keeps RNetRow B w5 w'
theorem Betw.keeps {b B : Nat} {w w' : World} (h : Betw b B w w') : Keeps NRRow B w w' := by
  obtain ⟨w5, h1, h2⟩ := h
  exact (h1.toKeeps.wide fun o h => .inl h).trans (h2.wide fun o h => .inr h)
theorem Betw.below {b B : Nat} {w w' : World} (h : Betw b B w w') : Below B w w' := h.keeps.below
theorem Betw.trans {b B : Nat} {w w' w2 : World} (h : Betw b B w w') (k : Keeps RNetRow B w' w2) : Betw b B w w2 := by
  obtain ⟨w5, h1, h2⟩ := h
  exact ⟨w5, h1, h2.trans k⟩
end Go.Proofs.YtcjjbpoaojjojaaGreatDoor

namespace Go.Proofs.YtcjjbpoaojjojaaGreatDoor
open Go Go.RowKit

theorem kr_held (cs : Array Value) (fz : Nat × Nat) : ¬ RNetRow (.cells cs 145 fz) := by
  rintro (⟨c, fz, h⟩ | ⟨c, fz, h⟩) <;> (injection h with _ h3 _; exact absurd h3 (by decide))
theorem kr_int (cs : Array Value) : ¬ RNetRow (.cells cs 3 (0, 0)) := by
  rintro (⟨c, fz, h⟩ | ⟨c, fz, h⟩) <;> (injection h with _ h3 _; exact absurd h3 (by decide))
theorem kr_file (cs : Array Value) : ¬ RNetRow (.cells cs 149 (0, 0)) := by
  rintro (⟨c, fz, h⟩ | ⟨c, fz, h⟩) <;> (injection h with _ h3 _; exact absurd h3 (by decide))
theorem kr_fault (cs : Array Value) (fz : Nat × Nat) : ¬ RNetRow (.cells cs 38 fz) := by
  rintro (⟨c, fz, h⟩ | ⟨c, fz, h⟩) <;> (injection h with _ h3 _; exact absurd h3 (by decide))
theorem kr_rheld (cs : Array Value) (fz : Nat × Nat) : ¬ RNetRow (.cells cs 128 fz) := by
  rintro (⟨c, fz, h⟩ | ⟨c, fz, h⟩) <;> (injection h with _ h3 _; exact absurd h3 (by decide))
theorem kr_tree (cs : Array Value) : ¬ RNetRow (.cells cs 130 (0, 0)) := by
  rintro (⟨c, fz, h⟩ | ⟨c, fz, h⟩) <;> (injection h with _ h3 _; exact absurd h3 (by decide))
theorem kq_map (es : Array MapEntry) (c : Nat) : ¬ RHeldRow (.map es c) := fun ⟨_, _, h⟩ => by cases h
theorem kq_net (cs : Array Value) (fz : Nat × Nat) : ¬ RHeldRow (.cells cs 90 fz) := fun ⟨_, _, h⟩ => by injection h with _ h _; exact absurd h (by decide)
theorem kq_held (cs : Array Value) (fz : Nat × Nat) : ¬ RHeldRow (.cells cs 145 fz) := fun ⟨_, _, h⟩ => by injection h with _ h _; exact absurd h (by decide)
theorem kq_rnet (cs : Array Value) : ¬ RHeldRow (.cells cs 44 (0, 0)) := fun ⟨_, _, h⟩ => by injection h with _ h _; exact absurd h (by decide)
theorem kq_site (cs : Array Value) : ¬ RHeldRow (.cells cs 272 (0, 0)) := fun ⟨_, _, h⟩ => by injection h with _ h _; exact absurd h (by decide)
theorem kq_str (cs : Array Value) : ¬ RHeldRow (.cells cs 9 (0, 0)) := fun ⟨_, _, h⟩ => by injection h with _ h _; exact absurd h (by decide)
theorem kq_int (cs : Array Value) : ¬ RHeldRow (.cells cs 3 (0, 0)) := fun ⟨_, _, h⟩ => by injection h with _ h _; exact absurd h (by decide)
theorem kq_file (cs : Array Value) : ¬ RHeldRow (.cells cs 149 (0, 0)) := fun ⟨_, _, h⟩ => by injection h with _ h _; exact absurd h (by decide)

theorem HeldIs.keepR {w w' : World} {B B2 b : Nat} {h : HeldB} (hi : HeldIs w B b h) (hk : Keeps RNetRow B2 w w') : HeldIs w' B b h := hi.keeps hk notR_map kr_held kr_int kr_file
theorem HeldIs.keepQ {w w' : World} {B B2 b : Nat} {h : HeldB} (hi : HeldIs w B b h) (hk : Keeps RHeldRow B2 w w') : HeldIs w' B b h := hi.keeps hk kq_map kq_held kq_int kq_file
/-- A net before a held: the held's turns leave it. -/
theorem NetIs.apartH {w w' : World} {B B2 b c t : Nat} {n : NetB} (h : NetIs w B b n t) (hk : KeepsU 2 c HeldRow B2 w w') (hd : b + 2 ≤ c) : NetIs w' B b n t := by
  obtain ⟨h0, bt, bo, bc, mo, mc, fo, hA⟩ := h
  have e1 := hA.et
  have e2 := hA.eo
  have e3 := hA.ec
  exact ⟨h0, bt, bo, bc, mo, mc, fo, { hA with
    blk := (hk.span b (Array.getElem?_eq_some_iff.1 hA.blk).1 (by omega)).trans hA.blk
    texts := hA.texts.keep (hk.span bt hA.texts.lt (by omega))
    offs := hA.offs.keep (hk.span bo hA.offs.lt (by omega))
    cuts := hA.cuts.keep (hk.span bc hA.cuts.lt (by omega)) }⟩
theorem NetIs.keepR {w w' : World} {B B2 b t : Nat} {n : NetB} (h : NetIs w B b n t) (hk : Keeps RNetRow B2 w w') : NetIs w' B b n t := h.keeps hk notR_map notR_net
theorem NetIs.keepQ {w w' : World} {B B2 b t : Nat} {n : NetB} (h : NetIs w B b n t) (hk : Keeps RHeldRow B2 w w') : NetIs w' B b n t := h.keeps hk kq_map kq_net
theorem RNetIs.keepQ {w w' : World} {B B2 m : Nat} {n : NetB} (h : RNetIs w B m n) (hk : Keeps RHeldRow B2 w w') : RNetIs w' B m n := h.keeps hk kq_rnet kq_site kq_str
theorem RNetIs.low {w : World} {B B2 m : Nat} {n : NetB} (h : RNetIs w B m n) (hb : B2 ≤ B) : RNetIs w B2 m n := by
  obtain ⟨vL, vO, h⟩ := h
  exact ⟨vL, vO, Nat.le_trans hb h.hm, h.blk, ownsRow_low h.sites hb, ownsRow_low h.offs hb⟩
theorem RHeldIs.keepR {W0 w w' : World} {B B2 b : Nat} {h : HeldB} (hi : RHeldIs W0 w B b h) (hk : Keeps RNetRow B2 w w') : RHeldIs W0 w' B b h := hi.keeps hk kr_rheld kr_tree kr_file
theorem NetIs.lt {w : World} {B b t : Nat} {n : NetB} (h : NetIs w B b n t) : b < w.heap.size := by
  obtain ⟨_, _, _, _, _, _, _, hA⟩ := h
  exact (Array.getElem?_eq_some_iff.1 hA.blk).1
theorem HeldIs.le {w : World} {B b : Nat} {h : HeldB} (hi : HeldIs w B b h) : B + 1 ≤ b := by
  obtain ⟨_, _, _, _, hA⟩ := hi
  have := hA.hm
  have := hA.hlt
  omega
end Go.Proofs.YtcjjbpoaojjojaaGreatDoor

namespace Go.Proofs.YtcjjbpoaojjojaaGreatDoor
open Go Go.RowKit

/-- Acts that came in. -/
def ARow (w : World) (v : Value) (l : List ActB) : Prop :=
  ∃ ao cap, v = .slice ao l.length cap ∧ l.length ≤ cap ∧ cap ≤ maxLen ∧ (∀ i, i < l.length → ∃ b off, ao = some ⟨b, off, none⟩ ∧ b < w.heap.size ∧
    ∀ k, (hk : k < l.length) → w.cell? ⟨b, off + k * 5, none⟩ = some (.string l[k].kind) ∧ w.cell? ⟨b, off + k * 5 + 1, none⟩ = some (.string l[k].url) ∧ w.cell? ⟨b, off + k * 5 + 2, none⟩ = some (.string l[k].s) ∧ w.cell? ⟨b, off + k * 5 + 3, none⟩ = some (.int .i64 l[k].n) ∧ w.cell? ⟨b, off + k * 5 + 4, none⟩ = some (.bool l[k].on) ∧ -9223372036854775808 ≤ l[k].n ∧ l[k].n ≤ 9223372036854775807)
theorem ARow.ext {w w' : World} {v : Value} {l : List ActB} (h : ARow w v l) (hb : Below w.heap.size w w') : ARow w' v l := by
  obtain ⟨ao, cap, h1, h2, h3, h4⟩ := h
  refine ⟨ao, cap, h1, h2, h3, fun i hi => ?_⟩
  obtain ⟨b, off, e, hbl, hc⟩ := h4 i hi
  refine ⟨b, off, e, Nat.lt_of_lt_of_le hbl hb.size, fun k hk => ?_⟩
  obtain ⟨q0, q1, q2, q3, q4, q5⟩ := hc k hk
  exact ⟨by rw [hb.cell (p := ⟨b, off + k * 5, none⟩) hbl]; exact q0, by rw [hb.cell (p := ⟨b, off + k * 5 + 1, none⟩) hbl]; exact q1, by rw [hb.cell (p := ⟨b, off + k * 5 + 2, none⟩) hbl]; exact q2,
    by rw [hb.cell (p := ⟨b, off + k * 5 + 3, none⟩) hbl]; exact q3, by rw [hb.cell (p := ⟨b, off + k * 5 + 4, none⟩) hbl]; exact q4, q5⟩
theorem gE_lt {E : Nat → Addr} {w : World} (h : Env E w) (k : Nat) (hk : k < 13) : gE k < w.heap.size := Lib.lt_of_cell (h.err k hk)

end Go.Proofs.YtcjjbpoaojjojaaGreatDoor
