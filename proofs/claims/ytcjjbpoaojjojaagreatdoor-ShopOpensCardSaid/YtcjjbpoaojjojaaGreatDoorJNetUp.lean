/- A map keyed by texts, by what it answers at each. The net, in plain Lean: what is at links, which hosts are off. net: New, Put, Host, Cut, Get, Calls: contracts. net: Host, Cut, Get, Calls: contracts. -/
import Derived.Test.YtcjjbpoaojjojaaGreatDoorJPlainly
import Derived.Test.YtcjjbpoaojjojaaGreatDoorProg
import Derived.Maps.OwnSet
import Derived.Maps.StringElems
import Derived.StringKeys
import Derived.Test.YtcjjbpoaojjojaaGreatDoorJHeldUp
import Derived.Test.YtcjjbpoaojjojaaGreatDoorJRefLinkUp
import Derived.Test.YtcjjbpoaojjojaaGreatDoorJErrors
import Derived.Test.YtcjjbpoaojjojaaGreatDoorJRowedEtc
namespace Go.Proofs.YtcjjbpoaojjojaaGreatDoor
open Go Go.RowKit Go.Maps

theorem Tryz.strKeyed : Keyed Tryz.prog 9 := string_keyed Tryz.underlying9
/-- Block b is a map of m texts; at each it holds what f says. -/
def MapIs (R : Value → Option (DataW Unit × List MemPlace)) (w : World) (b m : Nat) (f : ByteArray → Option (DataW Unit)) : Prop :=
  ∃ D, w.ownsMap Tryz.prog 9 R b m D ∧ Maps.size D = m ∧ (∀ s, Maps.has D (.string (bl s)) = (f s).isSome) ∧ ∀ s z, D.atKey (.string (bl s)) z = (f s).getD z

theorem ownsMap_tight {P : Program} {k : TypeId} {R : Value → Option (DataW Unit × List MemPlace)} {w : World} {b n : Nat} {D : DataW Unit} (h : w.ownsMap P k R b n D) : w.ownsMap P k R b (Maps.size D) D := by
  obtain ⟨es, clock, hb, F, hs, rfl⟩ := h
  exact ⟨es, clock, hb, F, by simp [Maps.size, length_sorted], rfl⟩
theorem key_ne {s u : ByteArray} (h : s ≠ u) : (Lit.string (bl s)) ≠ .string (bl u) := fun e => h (by
  injection e with e
  obtain ⟨⟨a⟩⟩ := s
  obtain ⟨⟨c⟩⟩ := u
  have : a = c := e
  rw [this])

theorem MapIs.made {R : Value → Option (DataW Unit × List MemPlace)} (w : World) : MapIs R (w.alloc (.map #[] 0)) w.heap.size 0 (fun _ => none) :=
  ⟨.map [], World.ownsMap_made _ _ _ _, rfl, fun _ => rfl, fun _ _ => rfl⟩
theorem MapIs.keep {R : Value → Option (DataW Unit × List MemPlace)} {w w' : World} {b m : Nat} {f : ByteArray → Option (DataW Unit)} (h : MapIs R w b m f) (hb : w'.heap[b]? = w.heap[b]?) : MapIs R w' b m f := by
  obtain ⟨D, ⟨es, clock, h1, F, hs, hD⟩, h2⟩ := h
  exact ⟨D, ⟨es, clock, hb.trans h1, F, hs, hD⟩, h2⟩
theorem MapIs.lt {R : Value → Option (DataW Unit × List MemPlace)} {w : World} {b m : Nat} {f : ByteArray → Option (DataW Unit)} (h : MapIs R w b m f) : b < w.heap.size := by
  obtain ⟨D, h1, _⟩ := h
  exact h1.lt
theorem MapIs.isMap {R : Value → Option (DataW Unit × List MemPlace)} {w : World} {b m : Nat} {f : ByteArray → Option (DataW Unit)} (h : MapIs R w b m f) : ∃ es c, w.heap[b]? = some (.map es c) := by
  obtain ⟨D, ⟨es, clock, h1, _⟩, _⟩ := h
  exact ⟨es, clock, h1⟩

/-- Behind 'm[s] = d'. -/
theorem MapIs.put {R : Value → Option (DataW Unit × List MemPlace)} {w w' : World} {b m n : Nat} {f : ByteArray → Option (DataW Unit)} {D : DataW Unit} (h1 : w.ownsMap Tryz.prog 9 R b m D) (h2 : Maps.size D = m) (h3 : ∀ s, Maps.has D (.string (bl s)) = (f s).isSome) (h4 : ∀ s z, D.atKey (.string (bl s)) z = (f s).getD z)
    (s : ByteArray) (d : DataW Unit) (hw : w'.ownsMap Tryz.prog 9 R b n (D.put (.string (bl s)) d)) : MapIs R w' b (if (f s).isSome = true then m else m + 1) (fun u => if u = s then some d else f u) := by
  have hsz : Maps.size (D.put (.string (bl s)) d) = if (f s).isSome = true then m else m + 1 := by
    rw [size_put (h1.tidy Tryz.strKeyed), h3, h2]
  refine ⟨_, by rw [← hsz]; exact ownsMap_tight hw, hsz, fun u => ?_, fun u z => ?_⟩
  · by_cases hu : u = s
    · subst hu; rw [has_put_same (k := .string (bl u)) h1.isMap trivial]; simp
    · rw [has_put_other (key_ne hu), h3]; simp [hu]
  · by_cases hu : u = s
    · subst hu; rw [atKey_put_same (k := .string (bl u)) h1.isMap trivial]; simp
    · rw [atKey_put_other (key_ne hu), h4]; simp [hu]
/-- Behind 'delete(m, s)'. -/
theorem MapIs.del {R : Value → Option (DataW Unit × List MemPlace)} {w w' : World} {b m n : Nat} {f : ByteArray → Option (DataW Unit)} {D : DataW Unit} (h1 : w.ownsMap Tryz.prog 9 R b m D) (h2 : Maps.size D = m) (h3 : ∀ s, Maps.has D (.string (bl s)) = (f s).isSome) (h4 : ∀ s z, D.atKey (.string (bl s)) z = (f s).getD z)
    (s : ByteArray) (hw : w'.ownsMap Tryz.prog 9 R b n (D.del (.string (bl s)))) : ∃ k, k ≤ m ∧ MapIs R w' b k (fun u => if u = s then none else f u) := by
  have hsz := size_del (h1.tidy Tryz.strKeyed) (k := .string (bl s))
  refine ⟨Maps.size (D.del (.string (bl s))), by omega, _, ownsMap_tight hw, rfl, fun u => ?_, fun u z => ?_⟩
  · by_cases hu : u = s
    · subst hu; rw [has_del_same]; simp
    · rw [has_del_other (key_ne hu), h3]; simp [hu]
  · by_cases hu : u = s
    · subst hu; rw [atKey_del_same]; simp
    · rw [atKey_del_other (key_ne hu), h4]; simp [hu]

noncomputable abbrev RStr : Value → Option (DataW Unit × List MemPlace) := plainElem Tryz.prog 9
noncomputable abbrev RInt : Value → Option (DataW Unit × List MemPlace) := plainElem Tryz.prog 3
noncomputable abbrev RBool : Value → Option (DataW Unit × List MemPlace) := plainElem Tryz.prog 4
end Go.Proofs.YtcjjbpoaojjojaaGreatDoor

namespace Go.Proofs.YtcjjbpoaojjojaaGreatDoor
open Go

/-- What is at a link: its text, and where it is cut (-1: nowhere). -/
structure SiteB where
  url : ByteArray
  text : ByteArray
  cut : Int
/-- A net: sites in the order in which they came, hosts that are off. -/
structure NetB where
  sites : List SiteB
  off : List ByteArray
  calls : Nat

def siteAt (u : ByteArray) : List SiteB → Option SiteB
  | [] => none
  | x :: l => if x.url = u then some x else siteAt u l
/-- A net's own shape: no link twice, not too many, nothing too long. -/
structure NetOk (n : NetB) : Prop where
  apart : (n.sites.map (·.url)).Nodup
  few : n.sites.length ≤ 60
  small : ∀ x ∈ n.sites, x.url.size ≤ 100000 ∧ x.text.size ≤ 20000 ∧ -1 ≤ x.cut ∧ x.cut ≤ 9223372036854775807
end Go.Proofs.YtcjjbpoaojjojaaGreatDoor

namespace Go.Proofs.YtcjjbpoaojjojaaGreatDoor
open Go Go.RowKit Go.Maps

def NetRow (o : Obj) : Prop := (∃ es c, o = .map es c) ∨ (∃ cs fz, o = .cells cs 90 fz)
def textAt (s : ByteArray) (l : List SiteB) : Option ByteArray := (siteAt s l).map (·.text)
def cutAt (s : ByteArray) (l : List SiteB) : Option Int := (siteAt s l).bind fun x => if 0 ≤ x.cut then some x.cut else none

/-- A net at block b, whose memory lies from B on; t: how many acts it has seen at most. -/
structure NetAt (w : World) (B b : Nat) (n : NetB) (t bt bo bc mo mc : Nat) (fo : ByteArray → Option Bool) : Prop where
  hb : B ≤ b
  ht : B ≤ bt
  ho : B ≤ bo
  hc : B ≤ bc
  d1 : bt ≠ bo
  d2 : bt ≠ bc
  d3 : bo ≠ bc
  et : bt + 3 = b
  eo : bo + 2 = b
  ec : bc + 1 = b
  hmo : mo ≤ t
  hmc : mc ≤ t
  hcl : n.calls ≤ t
  blk : w.heap[b]? = some (.cells #[.map (some bt), .map (some bo), .map (some bc), .int .i64 n.calls] 90 (0, 0))
  texts : MapIs RStr w bt n.sites.length (fun s => (textAt s n.sites).map fun x => .lit (.string (bl x)))
  offs : MapIs RBool w bo mo (fun s => (fo s).map fun x => .lit (.bool x))
  off : ∀ s, (fo s).getD false = (n.off.map bl).contains (bl s)
  cuts : MapIs RInt w bc mc (fun s => (cutAt s n.sites).map fun x => .lit (.int .i64 x))
def NetIs (w : World) (B b : Nat) (n : NetB) (t : Nat) : Prop := NetOk n ∧ ∃ bt bo bc mo mc fo, NetAt w B b n t bt bo bc mo mc fo
theorem NetAt.keeps {w w' : World} {B b t bt bo bc mo mc : Nat} {n : NetB} {fo : ByteArray → Option Bool} (h : NetAt w B b n t bt bo bc mo mc fo) (hb : Below w.heap.size w w') : NetAt w' B b n t bt bo bc mo mc fo :=
  { h with
    blk := by rw [hb.block b (Array.getElem?_eq_some_iff.1 h.blk).1]; exact h.blk
    texts := h.texts.keep (hb.block bt h.texts.lt)
    offs := h.offs.keep (hb.block bo h.offs.lt)
    cuts := h.cuts.keep (hb.block bc h.cuts.lt) }
theorem NetIs.below {w w' : World} {B b t : Nat} {n : NetB} (h : NetIs w B b n t) (hb : Below w.heap.size w w') : NetIs w' B b n t := by
  obtain ⟨h0, bt, bo, bc, mo, mc, fo, h1⟩ := h
  exact ⟨h0, bt, bo, bc, mo, mc, fo, h1.keeps hb⟩
theorem NetIs.later {w : World} {B b t t' : Nat} {n : NetB} (h : NetIs w B b n t) (ht : t ≤ t') : NetIs w B b n t' := by
  obtain ⟨h0, bt, bo, bc, mo, mc, fo, h1⟩ := h
  exact ⟨h0, bt, bo, bc, mo, mc, fo, { h1 with hmo := Nat.le_trans h1.hmo ht, hmc := Nat.le_trans h1.hmc ht, hcl := Nat.le_trans h1.hcl ht }⟩
/-- Other kinds' turns leave it. -/
theorem NetIs.keeps {K : Obj → Prop} {w w' : World} {B B2 b t : Nat} {n : NetB} (h : NetIs w B b n t) (hk : Keeps K B2 w w') (h1 : ∀ es c, ¬ K (.map es c)) (h2 : ∀ cs fz, ¬ K (.cells cs 90 fz)) : NetIs w' B b n t := by
  obtain ⟨h0, bt, bo, bc, mo, mc, fo, h3⟩ := h
  have hm : ∀ (R : Value → Option (DataW Unit × List MemPlace)) (c m : Nat) (f : ByteArray → Option (DataW Unit)), MapIs R w c m f → MapIs R w' c m f := by
    intro R c m f hc
    obtain ⟨es, cl, he⟩ := hc.isMap
    exact hc.keep ((hk.keep c _ he (h1 es cl)).trans he.symm)
  exact ⟨h0, bt, bo, bc, mo, mc, fo, { h3 with blk := hk.keep b _ h3.blk (h2 _ _), texts := hm _ _ _ _ h3.texts, offs := hm _ _ _ _ h3.offs, cuts := hm _ _ _ _ h3.cuts }⟩

/-- The environment of nets. -/
def NEnv (E : Nat → Addr) (w : World) : Prop := Env E w ∧ LEnv E w
theorem NEnv.ext {E : Nat → Addr} {w w' : World} (h : NEnv E w) (hb : Below w.heap.size w w') : NEnv E w' := ⟨h.1.ext hb, h.2.ext hb⟩

set_option maxRecDepth 100000 in
theorem netNew_any (w : World) : Calls Tryz.prog 9 #[] w fun e w' => ∃ b, e = .returned (.pointer (some ⟨b, 0, none⟩)) ∧ NetIs w' w.heap.size b ⟨[], [], 0⟩ 0 ∧ Below w.heap.size w w' := by
  have hmm := @run_makeMap Tryz.prog
  go_enter Tryz.func9, Tryz.ntmps9
  go_wp2_with fail
  go_ret
  have e1 : (w.alloc (.map #[] 0)).heap.size = w.heap.size + 1 := by simp only [World.size_alloc]
  have e2 : ((w.alloc (.map #[] 0)).alloc (.map #[] 0)).heap.size = w.heap.size + 1 + 1 := by simp only [World.size_alloc]
  have e3 : (((w.alloc (.map #[] 0)).alloc (.map #[] 0)).alloc (.map #[] 0)).heap.size = w.heap.size + 1 + 1 + 1 := by simp only [World.size_alloc]
  have b1 : Below w.heap.size w (w.alloc (.map #[] 0)) := (Below.refl _ _).alloc (Nat.le_refl _) _
  have b2 := b1.alloc (Nat.le_of_lt (by rw [e1]; omega)) (.map #[] 0)
  have b3 := b2.alloc (Nat.le_of_lt (by rw [e2]; omega)) (.map #[] 0)
  refine ⟨_, rfl, ⟨⟨by simp, by simp, by simp⟩, w.heap.size, w.heap.size + 1, w.heap.size + 1 + 1, 0, 0, fun _ => none, ?_⟩, b3.alloc (Nat.le_of_lt (by rw [e3]; omega)) _⟩
  refine { hb := by omega, ht := by omega, ho := by omega, hc := by omega, d1 := by omega, d2 := by omega, d3 := by omega, et := by omega, eo := by omega, ec := by omega, hmo := Nat.le_refl _, hmc := Nat.le_refl _, hcl := Nat.le_refl _, blk := ?_, texts := ?_, offs := ?_, off := fun _ => rfl, cuts := ?_ }
  · rw [← e3]; exact heap_alloc_new _ _
  · exact (MapIs.made w).keep (by rw [Below.heap_alloc, Below.heap_alloc, Below.heap_alloc] <;> (try simp only [World.size_alloc]) <;> omega)
  · have := MapIs.made (R := RBool) (w.alloc (.map #[] 0))
    rw [e1] at this
    exact this.keep (by rw [Below.heap_alloc, Below.heap_alloc] <;> (try simp only [World.size_alloc]) <;> omega)
  · have := MapIs.made (R := RInt) ((w.alloc (.map #[] 0)).alloc (.map #[] 0))
    rw [e2] at this
    exact this.keep (by rw [Below.heap_alloc] <;> (try simp only [World.size_alloc]) <;> omega)

/-- What a call on a net leaves and answers. -/
def NetPost (E : Nat → Addr) (B b t : Nat) (r : Nat × NetB) (w : World) (e : Ending) (w' : World) : Prop :=
  e = .returned (errV E r.1) ∧ NetIs w' B b r.2 (t + 1) ∧ KeepsU 4 b NetRow B w w'
theorem NetPost.same {E : Nat → Addr} {B b t c : Nat} {n : NetB} {w w' : World} {v : Value} (h : NetIs w' B b n t) (hb : Below w.heap.size w w') (hB : B ≤ w.heap.size) (hv : v = errV E c) : NetPost E B b t (c, n) w (.returned v) w' :=
  ⟨by rw [hv], h.later (Nat.le_succ _), KeepsU.of hb hB⟩
end Go.Proofs.YtcjjbpoaojjojaaGreatDoor

namespace Go.Proofs.YtcjjbpoaojjojaaGreatDoor
open Go Go.RowKit Go.Maps

/-- What Get answers and leaves. -/
def GetPost (E : Nat → Addr) (B b t : Nat) (r : List UInt8 × Nat × NetB) (w : World) (e : Ending) (w' : World) : Prop :=
  ∃ x : ByteArray, e = .returned (.tuple #[.string x, errV E r.2.1]) ∧ Hid (bl x = r.1) ∧ NetIs w' B b r.2.2 (t + 1) ∧ KeepsU 4 b NetRow B w w'
theorem GetPost.drewN {E : Nat → Addr} {B b t : Nat} {r : List UInt8 × Nat × NetB} {w w' : World} {e : Ending} (h : GetPost E B b t r w e w') (k : Nat) (hB : B ≤ w.heap.size) : GetPost E B b t r w e (w'.drewN k) := by
  obtain ⟨x, h1, h2, h3, h4⟩ := h
  exact ⟨x, h1, h2, h3.below (below_drewN _ _ _), h4.trans (KeepsU.of (below_drewN _ _ _) (Nat.le_trans hB h4.below.size))⟩

end Go.Proofs.YtcjjbpoaojjojaaGreatDoor
