/- The net, in plain Lean: what is at links, which hosts are off. A map keyed by texts, by what it answers at each. net: New, Put, Host, Cut, Get, Calls: contracts. net: Host, Cut, Get, Calls: contracts. -/
import Derived.Test.YtomceddfbfpjjaaGreatDoorKPlainly
import Derived.Test.YtomceddfbfpjjaaGreatDoorProg
import Derived.Maps.OwnSet
import Derived.Maps.StringElems
import Derived.StringKeys
import Derived.Test.YtomceddfbfpjjaaGreatDoorKHeldUp
import Derived.Test.YtomceddfbfpjjaaGreatDoorKRefLinkUp
import Derived.Test.YtomceddfbfpjjaaGreatDoorKErrors
import Derived.Test.YtomceddfbfpjjaaGreatDoorKRowed
namespace Go.Proofs.YtomceddfbfpjjaaGreatDoor
open Go

/-- What is at a link: its text, and where it is cut (-1: nowhere). -/
structure SiteB where
  url : ByteArray
  text : ByteArray
  cut : Int
/-- A net: sites in the order in which they came, hosts that are off. -/
structure NetB where
  sites : List SiteB
  off : List ByteArray
  calls : Nat

def siteAt (u : ByteArray) : List SiteB → Option SiteB
  | [] => none
  | x :: l => if x.url = u then some x else siteAt u l
def siteIx (u : ByteArray) : List SiteB → Option Nat
  | [] => none
  | x :: l => if x.url = u then some 0 else (siteIx u l).map (· + 1)
def setSite (u s : ByteArray) (c : Int) : List SiteB → List SiteB
  | [] => []
  | x :: l => if x.url = u then ⟨x.url, s, c⟩ :: l else x :: setSite u s c l
def setCut (u : ByteArray) (c : Int) : List SiteB → List SiteB
  | [] => []
  | x :: l => if x.url = u then ⟨x.url, x.text, c⟩ :: l else x :: setCut u c l

/-- Put: the error's number, the net behind it. -/
def putN (n : NetB) (u s : ByteArray) : Nat × NetB :=
  if linkE (bl u) ≠ 0 then (linkE (bl u), n)
  else if 20000 < s.size then (2, n)
  else match siteAt u n.sites with
    | some _ => (0, { n with sites := setSite u s (-1) n.sites })
    | none => if 60 ≤ n.sites.length then (8, n) else (0, { n with sites := n.sites ++ [⟨u, s, -1⟩] })
def hostN (n : NetB) (h : ByteArray) (on : Bool) : Nat × NetB :=
  if partB (bl h) then (0, { n with off := n.off.filter (fun x => x ≠ h) ++ (if on then [] else [h]) }) else (5, n)
def cutN (n : NetB) (u : ByteArray) (k : Int) : Nat × NetB :=
  match siteAt u n.sites with
  | none => (6, n)
  | some _ => if k < 0 then (2, n) else (0, { n with sites := setCut u k n.sites })
/-- Get: text, number, net. -/
def cutText (s : ByteArray) (c : Int) : List UInt8 := if 0 ≤ c ∧ c < s.size then (bl s).take c.toNat else bl s
def getN (n : NetB) (u : ByteArray) : List UInt8 × Nat × NetB :=
  if linkE (bl u) ≠ 0 then ([], linkE (bl u), n)
  else if (n.off.map bl).contains (lkH (bl u)) then ([], 13, { n with calls := n.calls + 1 })
  else match siteAt u n.sites with
    | none => ([], 6, { n with calls := n.calls + 1 })
    | some x => (cutText x.text x.cut, 0, { n with calls := n.calls + 1 })

theorem siteIx_at {u : ByteArray} : ∀ {l : List SiteB}, (siteIx u l).isSome = (siteAt u l).isSome
  | [] => rfl
  | x :: l => by
    unfold siteIx siteAt
    split
    · rfl
    · rw [Option.isSome_map, siteIx_at]
/-- The index at which it is found. -/
theorem siteIx_spec {u : ByteArray} : ∀ {l : List SiteB} {k : Nat}, siteIx u l = some k → ∃ h : k < l.length, l[k].url = u ∧ siteAt u l = some l[k] ∧ (∀ j, (hj : j < k) → l[j].url ≠ u) ∧
    (∀ s c, setSite u s c l = l.set k ⟨l[k].url, s, c⟩) ∧ ∀ c, setCut u c l = l.set k ⟨l[k].url, l[k].text, c⟩
  | [], k, h => by cases h
  | x :: l, k, h => by
    unfold siteIx at h
    split at h
    · rename_i hx
      cases h
      exact ⟨by simp, hx, by simp [siteAt, hx], fun j hj => absurd hj (Nat.not_lt_zero _), fun s c => by simp [setSite, hx], fun c => by simp [setCut, hx]⟩
    · rename_i hx
      obtain ⟨k', hk', rfl⟩ := Option.map_eq_some_iff.1 h
      obtain ⟨h1, h2, h3, h4, h5, h6⟩ := siteIx_spec hk'
      refine ⟨by simpa using h1, by simpa using h2, by simp [siteAt, hx, h3], fun j hj => ?_, fun s c => by simp [setSite, hx, h5], fun c => by simp [setCut, hx, h6]⟩
      cases j with
      | zero => exact hx
      | succ j => simpa using h4 j (by omega)
theorem siteAt_none {u : ByteArray} : ∀ {l : List SiteB}, siteAt u l = none ↔ ∀ x ∈ l, x.url ≠ u
  | [] => by simp [siteAt]
  | x :: l => by
    unfold siteAt
    split
    · rename_i h; simp [h]
    · rename_i h; rw [siteAt_none]; simp [h]
theorem siteIx_none {u : ByteArray} {l : List SiteB} : siteIx u l = none ↔ siteAt u l = none := by
  have := siteIx_at (u := u) (l := l)
  cases h1 : siteIx u l <;> cases h2 : siteAt u l <;> simp [h1, h2] at this ⊢
theorem siteAt_url {u : ByteArray} : ∀ {l : List SiteB} {x : SiteB}, siteAt u l = some x → x.url = u ∧ x ∈ l
  | [], x, h => by cases h
  | y :: l, x, h => by
    unfold siteAt at h
    split at h
    · rename_i hy; cases h; exact ⟨hy, by simp⟩
    · obtain ⟨h1, h2⟩ := siteAt_url h; exact ⟨h1, by simp [h2]⟩
theorem setSite_map (u s : ByteArray) (c : Int) : ∀ l : List SiteB, (setSite u s c l).map (·.url) = l.map (·.url)
  | [] => rfl
  | x :: l => by unfold setSite; split <;> simp [setSite_map]
theorem setCut_map (u : ByteArray) (c : Int) : ∀ l : List SiteB, (setCut u c l).map (·.url) = l.map (·.url)
  | [] => rfl
  | x :: l => by unfold setCut; split <;> simp [setCut_map]
theorem siteAt_setSite (u s v : ByteArray) (c : Int) : ∀ l : List SiteB, siteAt v (setSite u s c l) = if v = u then (siteAt u l).map (fun x => ⟨x.url, s, c⟩) else siteAt v l
  | [] => by simp [setSite, siteAt]
  | x :: l => by
    unfold setSite
    by_cases hx : x.url = u
    · rw [if_pos hx]
      by_cases hv : v = u
      · subst hv; simp [siteAt, hx]
      · rw [if_neg hv]
        have : x.url ≠ v := fun e => hv (by rw [← e, hx])
        simp [siteAt, this]
    · rw [if_neg hx]
      by_cases hv : x.url = v
      · have : v ≠ u := fun e => hx (by rw [hv, e])
        simp [siteAt, hv, this]
      · rw [siteAt, if_neg hv, siteAt_setSite u s v c l]
        simp [siteAt, hx, hv]
theorem siteAt_setCut (u v : ByteArray) (c : Int) : ∀ l : List SiteB, siteAt v (setCut u c l) = if v = u then (siteAt u l).map (fun x => ⟨x.url, x.text, c⟩) else siteAt v l
  | [] => by simp [setCut, siteAt]
  | x :: l => by
    unfold setCut
    by_cases hx : x.url = u
    · rw [if_pos hx]
      by_cases hv : v = u
      · subst hv; simp [siteAt, hx]
      · rw [if_neg hv]
        have : x.url ≠ v := fun e => hv (by rw [← e, hx])
        simp [siteAt, this]
    · rw [if_neg hx]
      by_cases hv : x.url = v
      · have : v ≠ u := fun e => hx (by rw [hv, e])
        simp [siteAt, hv, this]
      · rw [siteAt, if_neg hv, siteAt_setCut u v c l]
        simp [siteAt, hx, hv]
theorem siteAt_app (v : ByteArray) (x : SiteB) : ∀ l : List SiteB, siteAt v (l ++ [x]) = (siteAt v l).or (if x.url = v then some x else none)
  | [] => by simp [siteAt]
  | y :: l => by
    rw [List.cons_append]
    unfold siteAt
    split
    · rfl
    · exact siteAt_app v x l

/-- A net's own shape: no link twice, not too many, nothing too long. -/
structure NetOk (n : NetB) : Prop where
  apart : (n.sites.map (·.url)).Nodup
  few : n.sites.length ≤ 60
  small : ∀ x ∈ n.sites, x.url.size ≤ 100000 ∧ x.text.size ≤ 20000 ∧ -1 ≤ x.cut ∧ x.cut ≤ 9223372036854775807
theorem putN_ok {n : NetB} {u s : ByteArray} (h : NetOk n) (hu : u.size ≤ 100000) : NetOk (putN n u s).2 := by
  unfold putN
  split
  · exact h
  · split
    · exact h
    · rename_i hs
      split
      · refine ⟨by rw [setSite_map]; exact h.apart, ?_, ?_⟩
        · have := congrArg List.length (setSite_map u s (-1) n.sites)
          simp only [List.length_map] at this
          show (setSite u s (-1) n.sites).length ≤ 60
          rw [this]; exact h.few
        · intro x hx
          have hall : ∀ l : List SiteB, (∀ x ∈ l, x.url.size ≤ 100000 ∧ x.text.size ≤ 20000 ∧ -1 ≤ x.cut ∧ x.cut ≤ 9223372036854775807) → ∀ x ∈ setSite u s (-1) l, x.url.size ≤ 100000 ∧ x.text.size ≤ 20000 ∧ -1 ≤ x.cut ∧ x.cut ≤ 9223372036854775807 := by
            intro l
            induction l with
            | nil => intro _ x hx; cases hx
            | cons y l ih =>
              intro hl x hx
              unfold setSite at hx
              split at hx
              · rcases List.mem_cons.1 hx with rfl | hx
                · exact ⟨(hl y (by simp)).1, by show s.size ≤ 20000; omega, by show (-1 : Int) ≤ -1; omega, by show (-1 : Int) ≤ 9223372036854775807; omega⟩
                · exact hl x (by simp [hx])
              · rcases List.mem_cons.1 hx with rfl | hx
                · exact hl _ (by simp)
                · exact ih (fun z hz => hl z (by simp [hz])) x hx
          exact hall _ h.small x hx
      · split
        · exact h
        · rename_i hn hl
          refine ⟨?_, by show (n.sites ++ [_]).length ≤ 60; rw [List.length_append]; simp; omega, ?_⟩
          · show ((n.sites ++ [(⟨u, s, -1⟩ : SiteB)]).map (·.url)).Nodup
            rw [List.map_append, List.nodup_append]
            refine ⟨h.apart, by simp, ?_⟩
            intro a ha b hb hab
            obtain ⟨x, hx, rfl⟩ := List.mem_map.1 ha
            have : b = u := by simpa using hb
            subst this
            exact siteAt_none.1 hn x hx hab
          · intro x hx
            rcases List.mem_append.1 hx with hx | hx
            · exact h.small x hx
            · obtain rfl : x = ⟨u, s, -1⟩ := by simpa using hx
              exact ⟨hu, by show s.size ≤ 20000; omega, by show (-1 : Int) ≤ -1; omega, by show (-1 : Int) ≤ 9223372036854775807; omega⟩
theorem hostN_ok {n : NetB} {u : ByteArray} {on : Bool} (h : NetOk n) : NetOk (hostN n u on).2 := by
  unfold hostN
  split
  · exact ⟨h.apart, h.few, h.small⟩
  · exact h
theorem cutN_ok {n : NetB} {u : ByteArray} {k : Int} (h : NetOk n) (hk : k ≤ 9223372036854775807) : NetOk (cutN n u k).2 := by
  unfold cutN
  split
  · exact h
  · split
    · exact h
    · rename_i hk0
      refine ⟨by rw [setCut_map]; exact h.apart, ?_, ?_⟩
      · have := congrArg List.length (setCut_map u k n.sites)
        simp only [List.length_map] at this
        show (setCut u k n.sites).length ≤ 60
        rw [this]; exact h.few
      · intro x hx
        have hall : ∀ l : List SiteB, (∀ x ∈ l, x.url.size ≤ 100000 ∧ x.text.size ≤ 20000 ∧ -1 ≤ x.cut ∧ x.cut ≤ 9223372036854775807) → ∀ x ∈ setCut u k l, x.url.size ≤ 100000 ∧ x.text.size ≤ 20000 ∧ -1 ≤ x.cut ∧ x.cut ≤ 9223372036854775807 := by
          intro l
          induction l with
          | nil => intro _ x hx; cases hx
          | cons y l ih =>
            intro hl x hx
            unfold setCut at hx
            split at hx
            · rcases List.mem_cons.1 hx with rfl | hx
              · exact ⟨(hl y (by simp)).1, (hl y (by simp)).2.1, by show -1 ≤ k; omega, hk⟩
              · exact hl x (by simp [hx])
            · rcases List.mem_cons.1 hx with rfl | hx
              · exact hl _ (by simp)
              · exact ih (fun z hz => hl z (by simp [hz])) x hx
        exact hall _ h.small x hx
theorem getN_ok {n : NetB} {u : ByteArray} (h : NetOk n) : NetOk (getN n u).2.2 := by
  have : NetOk { n with calls := n.calls + 1 } := ⟨h.apart, h.few, h.small⟩
  unfold getN
  split
  · exact h
  · split
    · exact this
    · split <;> exact this
end Go.Proofs.YtomceddfbfpjjaaGreatDoor

namespace Go.Proofs.YtomceddfbfpjjaaGreatDoor
open Go Go.RowKit Go.Maps

theorem Tryz.strKeyed : Keyed Tryz.prog 9 := string_keyed Tryz.underlying9
theorem keyLit (s : ByteArray) (h : s.size ≤ maxLen) : keyOf Tryz.prog 9 (.string s) = some (.string (bl s)) := WideMaps.keyOf_string_mk Tryz.underlying9 h

/-- Block b is a map of m texts; at each it holds what f says. -/
def MapIs (R : Value → Option (DataW Unit × List MemPlace)) (w : World) (b m : Nat) (f : ByteArray → Option (DataW Unit)) : Prop :=
  ∃ D, w.ownsMap Tryz.prog 9 R b m D ∧ Maps.size D = m ∧ (∀ s, Maps.has D (.string (bl s)) = (f s).isSome) ∧ ∀ s z, D.atKey (.string (bl s)) z = (f s).getD z

theorem ownsMap_tight {P : Program} {k : TypeId} {R : Value → Option (DataW Unit × List MemPlace)} {w : World} {b n : Nat} {D : DataW Unit} (h : w.ownsMap P k R b n D) : w.ownsMap P k R b (Maps.size D) D := by
  obtain ⟨es, clock, hb, F, hs, rfl⟩ := h
  exact ⟨es, clock, hb, F, by simp [Maps.size, length_sorted], rfl⟩
theorem key_ne {s u : ByteArray} (h : s ≠ u) : (Lit.string (bl s)) ≠ .string (bl u) := fun e => h (by
  injection e with e
  obtain ⟨⟨a⟩⟩ := s
  obtain ⟨⟨c⟩⟩ := u
  have : a = c := e
  rw [this])

theorem MapIs.made {R : Value → Option (DataW Unit × List MemPlace)} (w : World) : MapIs R (w.alloc (.map #[] 0)) w.heap.size 0 (fun _ => none) :=
  ⟨.map [], World.ownsMap_made _ _ _ _, rfl, fun _ => rfl, fun _ _ => rfl⟩
theorem MapIs.keep {R : Value → Option (DataW Unit × List MemPlace)} {w w' : World} {b m : Nat} {f : ByteArray → Option (DataW Unit)} (h : MapIs R w b m f) (hb : w'.heap[b]? = w.heap[b]?) : MapIs R w' b m f := by
  obtain ⟨D, ⟨es, clock, h1, F, hs, hD⟩, h2⟩ := h
  exact ⟨D, ⟨es, clock, hb.trans h1, F, hs, hD⟩, h2⟩
theorem MapIs.lt {R : Value → Option (DataW Unit × List MemPlace)} {w : World} {b m : Nat} {f : ByteArray → Option (DataW Unit)} (h : MapIs R w b m f) : b < w.heap.size := by
  obtain ⟨D, h1, _⟩ := h
  exact h1.lt
theorem MapIs.isMap {R : Value → Option (DataW Unit × List MemPlace)} {w : World} {b m : Nat} {f : ByteArray → Option (DataW Unit)} (h : MapIs R w b m f) : ∃ es c, w.heap[b]? = some (.map es c) := by
  obtain ⟨D, ⟨es, clock, h1, _⟩, _⟩ := h
  exact ⟨es, clock, h1⟩

/-- Behind 'm[s] = d'. -/
theorem MapIs.put {R : Value → Option (DataW Unit × List MemPlace)} {w w' : World} {b m n : Nat} {f : ByteArray → Option (DataW Unit)} {D : DataW Unit} (h1 : w.ownsMap Tryz.prog 9 R b m D) (h2 : Maps.size D = m) (h3 : ∀ s, Maps.has D (.string (bl s)) = (f s).isSome) (h4 : ∀ s z, D.atKey (.string (bl s)) z = (f s).getD z)
    (s : ByteArray) (d : DataW Unit) (hw : w'.ownsMap Tryz.prog 9 R b n (D.put (.string (bl s)) d)) : MapIs R w' b (if (f s).isSome = true then m else m + 1) (fun u => if u = s then some d else f u) := by
  have hsz : Maps.size (D.put (.string (bl s)) d) = if (f s).isSome = true then m else m + 1 := by
    rw [size_put (h1.tidy Tryz.strKeyed), h3, h2]
  refine ⟨_, by rw [← hsz]; exact ownsMap_tight hw, hsz, fun u => ?_, fun u z => ?_⟩
  · by_cases hu : u = s
    · subst hu; rw [has_put_same (k := .string (bl u)) h1.isMap trivial]; simp
    · rw [has_put_other (key_ne hu), h3]; simp [hu]
  · by_cases hu : u = s
    · subst hu; rw [atKey_put_same (k := .string (bl u)) h1.isMap trivial]; simp
    · rw [atKey_put_other (key_ne hu), h4]; simp [hu]
/-- Behind 'delete(m, s)'. -/
theorem MapIs.del {R : Value → Option (DataW Unit × List MemPlace)} {w w' : World} {b m n : Nat} {f : ByteArray → Option (DataW Unit)} {D : DataW Unit} (h1 : w.ownsMap Tryz.prog 9 R b m D) (h2 : Maps.size D = m) (h3 : ∀ s, Maps.has D (.string (bl s)) = (f s).isSome) (h4 : ∀ s z, D.atKey (.string (bl s)) z = (f s).getD z)
    (s : ByteArray) (hw : w'.ownsMap Tryz.prog 9 R b n (D.del (.string (bl s)))) : ∃ k, k ≤ m ∧ MapIs R w' b k (fun u => if u = s then none else f u) := by
  have hsz := size_del (h1.tidy Tryz.strKeyed) (k := .string (bl s))
  refine ⟨Maps.size (D.del (.string (bl s))), by omega, _, ownsMap_tight hw, rfl, fun u => ?_, fun u z => ?_⟩
  · by_cases hu : u = s
    · subst hu; rw [has_del_same]; simp
    · rw [has_del_other (key_ne hu), h3]; simp [hu]
  · by_cases hu : u = s
    · subst hu; rw [atKey_del_same]; simp
    · rw [atKey_del_other (key_ne hu), h4]; simp [hu]

theorem Tryz.zeroStr (w : World) : (zeroValue 9).run Tryz.prog w = .ok (.string ⟨#[]⟩) w := by kernel_rfl
theorem Tryz.zeroInt (w : World) : (zeroValue 3).run Tryz.prog w = .ok (.int .i64 0) w := by kernel_rfl
theorem Tryz.zeroBool (w : World) : (zeroValue 4).run Tryz.prog w = .ok (.bool false) w := by kernel_rfl
noncomputable abbrev RStr : Value → Option (DataW Unit × List MemPlace) := plainElem Tryz.prog 9
noncomputable abbrev RInt : Value → Option (DataW Unit × List MemPlace) := plainElem Tryz.prog 3
noncomputable abbrev RBool : Value → Option (DataW Unit × List MemPlace) := plainElem Tryz.prog 4
theorem plainElem_bool_inv {P : Program} {e : TypeId} (he : P.underlying e = some .bool) {v : Value} {z : DataW Unit × List MemPlace} (h : plainElem P e v = some z) : ∃ x, v = .bool x ∧ z = (.lit (.bool x), []) := by
  unfold plainElem at h
  rw [he] at h
  cases v <;> simp at h
  exact ⟨_, rfl, h.symm⟩
theorem bl_eq {a b : ByteArray} (h : bl a = bl b) : a = b := by
  obtain ⟨⟨a⟩⟩ := a
  obtain ⟨⟨c⟩⟩ := b
  have : a = c := h
  rw [this]

/-- 's, is := m[u]' at texts. -/
theorem look_strs {w : World} {b m : Nat} {f : ByteArray → Option ByteArray} (h : MapIs RStr w b m (fun s => (f s).map fun x => .lit (.string (bl x)))) (u : ByteArray) (hu : u.size ≤ maxLen) :
    (Instr.lookup 72 (.map (some b)) (.string u) true).run Tryz.prog w = .ok (.tuple #[.string ((f u).getD ⟨#[]⟩), .bool (f u).isSome]) w := by
  obtain ⟨D, h1, h2, h3, h4⟩ := h
  dsimp only at h3 h4
  obtain ⟨v, ps, hr, hv⟩ := h1.look_ok Tryz.strKeyed Tryz.underlying72 (Tryz.zeroStr w) (plainElem_string Tryz.underlying9 (s := ⟨#[]⟩) (Nat.zero_le _)) (keyLit u hu)
  rw [hr, h3]
  obtain ⟨s, rfl, hz, _⟩ := plainElem_string_inv Tryz.underlying9 hv
  simp only [Prod.mk.injEq] at hz
  rw [h4] at hz
  cases hf : f u with
  | none => rw [hf] at hz; simp at hz; rw [bl_eq (a := s) (b := ⟨#[]⟩) (by rw [show bl s = s.data.toList from rfl, ← hz.1]; rfl)]; rfl
  | some x => rw [hf] at hz; simp at hz; rw [bl_eq (a := s) (b := x) (by rw [show bl s = s.data.toList from rfl, ← hz.1])]; rfl
/-- 'k, cut := m[u]' at numbers. -/
theorem look_ints {w : World} {b m : Nat} {f : ByteArray → Option Int} (h : MapIs RInt w b m (fun s => (f s).map fun x => .lit (.int .i64 x))) (u : ByteArray) (hu : u.size ≤ maxLen) :
    (Instr.lookup 74 (.map (some b)) (.string u) true).run Tryz.prog w = .ok (.tuple #[.int .i64 ((f u).getD 0), .bool (f u).isSome]) w := by
  obtain ⟨D, h1, h2, h3, h4⟩ := h
  dsimp only at h3 h4
  obtain ⟨v, ps, hr, hv⟩ := h1.look_ok Tryz.strKeyed Tryz.underlying74 (Tryz.zeroInt w) (plainElem_int Tryz.underlying3 (q := .i64) (a := 0) (by decide)) (keyLit u hu)
  rw [hr, h3]
  obtain ⟨s, rfl, hz, _⟩ := plainElem_int_inv Tryz.underlying3 hv
  simp only [Prod.mk.injEq] at hz
  rw [h4] at hz
  cases hf : f u with
  | none => rw [hf] at hz; simp at hz; rw [hz.1]; rfl
  | some x => rw [hf] at hz; simp at hz; rw [hz.1]; rfl
/-- 'm[u]' at bools. -/
theorem look_bools {w : World} {b m : Nat} {f : ByteArray → Option Bool} (h : MapIs RBool w b m (fun s => (f s).map fun x => .lit (.bool x))) (u : ByteArray) (hu : u.size ≤ maxLen) :
    (Instr.lookup 73 (.map (some b)) (.string u) false).run Tryz.prog w = .ok (.bool ((f u).getD false)) w := by
  obtain ⟨D, h1, h2, h3, h4⟩ := h
  dsimp only at h3 h4
  obtain ⟨v, ps, hr, hv⟩ := h1.lookup Tryz.strKeyed Tryz.underlying73 (Tryz.zeroBool w) (plainElem_bool Tryz.underlying4 false) (keyLit u hu)
  rw [hr]
  obtain ⟨s, rfl, hz⟩ := plainElem_bool_inv Tryz.underlying4 hv
  simp only [Prod.mk.injEq] at hz
  rw [h4] at hz
  cases hf : f u with
  | none => rw [hf] at hz; simp at hz; rw [hz.1]; rfl
  | some x => rw [hf] at hz; simp at hz; rw [hz.1]; rfl
end Go.Proofs.YtomceddfbfpjjaaGreatDoor

namespace Go.Proofs.YtomceddfbfpjjaaGreatDoor
open Go Go.RowKit Go.Maps

def NetRow (o : Obj) : Prop := (∃ es c, o = .map es c) ∨ (∃ cs fz, o = .cells cs 76 fz)
def textAt (s : ByteArray) (l : List SiteB) : Option ByteArray := (siteAt s l).map (·.text)
def cutAt (s : ByteArray) (l : List SiteB) : Option Int := (siteAt s l).bind fun x => if 0 ≤ x.cut then some x.cut else none

/-- A net at block b, whose memory lies from B on; t: how many acts it has seen at most. -/
structure NetAt (w : World) (B b : Nat) (n : NetB) (t bt bo bc mo mc : Nat) (fo : ByteArray → Option Bool) : Prop where
  hb : B ≤ b
  ht : B ≤ bt
  ho : B ≤ bo
  hc : B ≤ bc
  d1 : bt ≠ bo
  d2 : bt ≠ bc
  d3 : bo ≠ bc
  et : bt + 3 = b
  eo : bo + 2 = b
  ec : bc + 1 = b
  hmo : mo ≤ t
  hmc : mc ≤ t
  hcl : n.calls ≤ t
  blk : w.heap[b]? = some (.cells #[.map (some bt), .map (some bo), .map (some bc), .int .i64 n.calls] 76 (0, 0))
  texts : MapIs RStr w bt n.sites.length (fun s => (textAt s n.sites).map fun x => .lit (.string (bl x)))
  offs : MapIs RBool w bo mo (fun s => (fo s).map fun x => .lit (.bool x))
  off : ∀ s, (fo s).getD false = (n.off.map bl).contains (bl s)
  cuts : MapIs RInt w bc mc (fun s => (cutAt s n.sites).map fun x => .lit (.int .i64 x))
def NetIs (w : World) (B b : Nat) (n : NetB) (t : Nat) : Prop := NetOk n ∧ ∃ bt bo bc mo mc fo, NetAt w B b n t bt bo bc mo mc fo
theorem NetAt.keeps {w w' : World} {B b t bt bo bc mo mc : Nat} {n : NetB} {fo : ByteArray → Option Bool} (h : NetAt w B b n t bt bo bc mo mc fo) (hb : Below w.heap.size w w') : NetAt w' B b n t bt bo bc mo mc fo :=
  { h with
    blk := by rw [hb.block b (Array.getElem?_eq_some_iff.1 h.blk).1]; exact h.blk
    texts := h.texts.keep (hb.block bt h.texts.lt)
    offs := h.offs.keep (hb.block bo h.offs.lt)
    cuts := h.cuts.keep (hb.block bc h.cuts.lt) }
theorem NetIs.below {w w' : World} {B b t : Nat} {n : NetB} (h : NetIs w B b n t) (hb : Below w.heap.size w w') : NetIs w' B b n t := by
  obtain ⟨h0, bt, bo, bc, mo, mc, fo, h1⟩ := h
  exact ⟨h0, bt, bo, bc, mo, mc, fo, h1.keeps hb⟩
theorem NetIs.later {w : World} {B b t t' : Nat} {n : NetB} (h : NetIs w B b n t) (ht : t ≤ t') : NetIs w B b n t' := by
  obtain ⟨h0, bt, bo, bc, mo, mc, fo, h1⟩ := h
  exact ⟨h0, bt, bo, bc, mo, mc, fo, { h1 with hmo := Nat.le_trans h1.hmo ht, hmc := Nat.le_trans h1.hmc ht, hcl := Nat.le_trans h1.hcl ht }⟩
/-- Other kinds' turns leave it. -/
theorem NetIs.keeps {K : Obj → Prop} {w w' : World} {B B2 b t : Nat} {n : NetB} (h : NetIs w B b n t) (hk : Keeps K B2 w w') (h1 : ∀ es c, ¬ K (.map es c)) (h2 : ∀ cs fz, ¬ K (.cells cs 76 fz)) : NetIs w' B b n t := by
  obtain ⟨h0, bt, bo, bc, mo, mc, fo, h3⟩ := h
  have hm : ∀ (R : Value → Option (DataW Unit × List MemPlace)) (c m : Nat) (f : ByteArray → Option (DataW Unit)), MapIs R w c m f → MapIs R w' c m f := by
    intro R c m f hc
    obtain ⟨es, cl, he⟩ := hc.isMap
    exact hc.keep ((hk.keep c _ he (h1 es cl)).trans he.symm)
  exact ⟨h0, bt, bo, bc, mo, mc, fo, { h3 with blk := hk.keep b _ h3.blk (h2 _ _), texts := hm _ _ _ _ h3.texts, offs := hm _ _ _ _ h3.offs, cuts := hm _ _ _ _ h3.cuts }⟩

/-- The environment of nets. -/
def NEnv (E : Nat → Addr) (w : World) : Prop := Env E w ∧ LEnv E w
theorem NEnv.ext {E : Nat → Addr} {w w' : World} (h : NEnv E w) (hb : Below w.heap.size w w') : NEnv E w' := ⟨h.1.ext hb, h.2.ext hb⟩

set_option maxRecDepth 100000 in
theorem netNew_any (w : World) : Calls Tryz.prog 8 #[] w fun e w' => ∃ b, e = .returned (.pointer (some ⟨b, 0, none⟩)) ∧ NetIs w' w.heap.size b ⟨[], [], 0⟩ 0 ∧ Below w.heap.size w w' := by
  have hmm := @run_makeMap Tryz.prog
  go_enter Tryz.func8, Tryz.ntmps8
  go_wp2_with fail
  go_ret
  have e1 : (w.alloc (.map #[] 0)).heap.size = w.heap.size + 1 := by simp only [World.size_alloc]
  have e2 : ((w.alloc (.map #[] 0)).alloc (.map #[] 0)).heap.size = w.heap.size + 1 + 1 := by simp only [World.size_alloc]
  have e3 : (((w.alloc (.map #[] 0)).alloc (.map #[] 0)).alloc (.map #[] 0)).heap.size = w.heap.size + 1 + 1 + 1 := by simp only [World.size_alloc]
  have b1 : Below w.heap.size w (w.alloc (.map #[] 0)) := (Below.refl _ _).alloc (Nat.le_refl _) _
  have b2 := b1.alloc (Nat.le_of_lt (by rw [e1]; omega)) (.map #[] 0)
  have b3 := b2.alloc (Nat.le_of_lt (by rw [e2]; omega)) (.map #[] 0)
  refine ⟨_, rfl, ⟨⟨by simp, by simp, by simp⟩, w.heap.size, w.heap.size + 1, w.heap.size + 1 + 1, 0, 0, fun _ => none, ?_⟩, b3.alloc (Nat.le_of_lt (by rw [e3]; omega)) _⟩
  refine { hb := by omega, ht := by omega, ho := by omega, hc := by omega, d1 := by omega, d2 := by omega, d3 := by omega, et := by omega, eo := by omega, ec := by omega, hmo := Nat.le_refl _, hmc := Nat.le_refl _, hcl := Nat.le_refl _, blk := ?_, texts := ?_, offs := ?_, off := fun _ => rfl, cuts := ?_ }
  · rw [← e3]; exact heap_alloc_new _ _
  · exact (MapIs.made w).keep (by rw [Below.heap_alloc, Below.heap_alloc, Below.heap_alloc] <;> (try simp only [World.size_alloc]) <;> omega)
  · have := MapIs.made (R := RBool) (w.alloc (.map #[] 0))
    rw [e1] at this
    exact this.keep (by rw [Below.heap_alloc, Below.heap_alloc] <;> (try simp only [World.size_alloc]) <;> omega)
  · have := MapIs.made (R := RInt) ((w.alloc (.map #[] 0)).alloc (.map #[] 0))
    rw [e2] at this
    exact this.keep (by rw [Below.heap_alloc] <;> (try simp only [World.size_alloc]) <;> omega)

theorem textAt_set (u s v : ByteArray) (l : List SiteB) (h : (siteAt u l).isSome = true) : textAt v (setSite u s (-1) l) = if v = u then some s else textAt v l := by
  unfold textAt
  rw [siteAt_setSite]
  split
  · obtain ⟨x, hx⟩ := Option.isSome_iff_exists.1 h
    rw [hx]; rfl
  · rfl
theorem cutAt_set (u s v : ByteArray) (l : List SiteB) : cutAt v (setSite u s (-1) l) = if v = u then none else cutAt v l := by
  unfold cutAt
  rw [siteAt_setSite]
  split
  · cases siteAt u l <;> simp
  · rfl
theorem textAt_app (u s v : ByteArray) (l : List SiteB) (h : siteAt u l = none) : textAt v (l ++ [⟨u, s, -1⟩]) = if v = u then some s else textAt v l := by
  unfold textAt
  rw [siteAt_app]
  by_cases hv : v = u
  · subst hv; rw [h]; simp
  · rw [if_neg hv, if_neg (fun e => hv e.symm)]; simp
theorem cutAt_app (u s v : ByteArray) (l : List SiteB) (h : siteAt u l = none) : cutAt v (l ++ [⟨u, s, -1⟩]) = if v = u then none else cutAt v l := by
  unfold cutAt
  rw [siteAt_app]
  by_cases hv : v = u
  · subst hv; rw [h]; simp
  · rw [if_neg hv, if_neg (fun e => hv e.symm)]; simp
theorem textAt_cut (u v : ByteArray) (k : Int) (l : List SiteB) : textAt v (setCut u k l) = textAt v l := by
  unfold textAt
  rw [siteAt_setCut]
  split
  · rename_i h; subst h; cases siteAt v l <;> rfl
  · rfl
theorem cutAt_cut (u v : ByteArray) (k : Int) (hk : 0 ≤ k) (l : List SiteB) (h : (siteAt u l).isSome = true) : cutAt v (setCut u k l) = if v = u then some k else cutAt v l := by
  unfold cutAt
  rw [siteAt_setCut]
  split
  · obtain ⟨x, hx⟩ := Option.isSome_iff_exists.1 h
    rw [hx]; simp [hk]
  · rfl

/-- What a call on a net leaves and answers. -/
def NetPost (E : Nat → Addr) (B b t : Nat) (r : Nat × NetB) (w : World) (e : Ending) (w' : World) : Prop :=
  e = .returned (errV E r.1) ∧ NetIs w' B b r.2 (t + 1) ∧ KeepsU 4 b NetRow B w w'
theorem NetPost.same {E : Nat → Addr} {B b t c : Nat} {n : NetB} {w w' : World} {v : Value} (h : NetIs w' B b n t) (hb : Below w.heap.size w w') (hB : B ≤ w.heap.size) (hv : v = errV E c) : NetPost E B b t (c, n) w (.returned v) w' :=
  ⟨by rw [hv], h.later (Nat.le_succ _), KeepsU.of hb hB⟩
theorem mapTurned_keeps {B b c : Nat} {w w' : World} (h : w.mapTurned w' c) (hB : B ≤ c) (hw : B ≤ w.heap.size) (hu : c ≤ b ∧ b < c + 4) : KeepsU 4 b NetRow B w w' := by
  obtain ⟨es, c, es', c', h1, h2⟩ := id h
  exact KeepsU.one h.grown hB hw h1 (.inl ⟨_, _, rfl⟩) hu

theorem netAt_c2 {w w' : World} {B b t bt bo bc mo mc : Nat} {n : NetB} {fo : ByteArray → Option Bool} (h : NetAt w B b n t bt bo bc mo mc fo) {c : Nat} (ht : w.mapTurned w' c) : w'.cell? ⟨b, 2, none⟩ = some (.map (some bc)) := by
  have hk : w'.heap[b]? = w.heap[b]? := ht.grown.block b (Array.getElem?_eq_some_iff.1 h.blk).1 (fun e => by
    obtain ⟨es, cl, es', cl', h1, _⟩ := ht
    rw [← Option.some.inj e, h.blk] at h1
    cases h1)
  rw [Lib.cell_of_heap (hk.trans h.blk)]; rfl
theorem ownsMap_turned {P : Program} {k : TypeId} {R : Value → Option (DataW Unit × List MemPlace)} {w w' : World} {b c n : Nat} {D : DataW Unit} (h : w.ownsMap P k R b n D) (ht : w.mapTurned w' c) (hne : b ≠ c) : w'.ownsMap P k R b n D :=
  h.kept ht.grown (fun e => hne (Option.some.inj e))
theorem mapIs_turned {R : Value → Option (DataW Unit × List MemPlace)} {w w' : World} {b c m : Nat} {f : ByteArray → Option (DataW Unit)} (h : MapIs R w b m f) (ht : w.mapTurned w' c) (hne : b ≠ c) : MapIs R w' b m f := by
  obtain ⟨D, h1, h2⟩ := h
  exact ⟨D, ownsMap_turned h1 ht hne, h2⟩
theorem blk_turned {w w' : World} {b c : Nat} {cs : Array Value} {T : TypeId} {fz : Nat × Nat} (h : w.heap[b]? = some (.cells cs T fz)) (ht : w.mapTurned w' c) : w'.heap[b]? = some (.cells cs T fz) := by
  rw [ht.grown.block b (Array.getElem?_eq_some_iff.1 h).1 (fun e => by
    obtain ⟨es, cl, es', cl', h1, _⟩ := ht
    rw [← Option.some.inj e, h] at h1
    cases h1)]
  exact h
theorem netAt_put {w1 w2 w3 : World} {B b t bt bo bc mo mc k : Nat} {n n' : NetB} {fo : ByteArray → Option Bool} {D D2 : DataW Unit} {u s : ByteArray} {j : Nat} (h : NetAt w1 B b n t bt bo bc mo mc fo)
    (d1 : w1.ownsMap Tryz.prog 9 RStr bt n.sites.length D) (d2 : Maps.size D = n.sites.length) (d3 : ∀ s, Maps.has D (.string (bl s)) = ((textAt s n.sites).map fun x => DataW.lit (H := Unit) (.string (bl x))).isSome) (d4 : ∀ s z, D.atKey (.string (bl s)) z = ((textAt s n.sites).map fun x => DataW.lit (.string (bl x))).getD z)
    (g1 : w1.ownsMap Tryz.prog 9 RInt bc mc D2) (g2 : Maps.size D2 = mc) (g3 : ∀ s, Maps.has D2 (.string (bl s)) = ((cutAt s n.sites).map fun x => DataW.lit (H := Unit) (.int .i64 x)).isSome) (g4 : ∀ s z, D2.atKey (.string (bl s)) z = ((cutAt s n.sites).map fun x => DataW.lit (.int .i64 x)).getD z)
    (o2 : w2.ownsMap Tryz.prog 9 RStr bt k (D.put (.string (bl u)) (.lit (.string (bl s))))) (ht2 : w1.mapTurned w2 bt) (o3 : w3.ownsMap Tryz.prog 9 RInt bc j (D2.del (.string (bl u)))) (ht3 : w2.mapTurned w3 bc)
    (ho : n'.off = n.off) (hc : n'.calls = n.calls) (hl : n'.sites.length = if (textAt u n.sites).isSome = true then n.sites.length else n.sites.length + 1)
    (hx : ∀ v, textAt v n'.sites = if v = u then some s else textAt v n.sites) (hy : ∀ v, cutAt v n'.sites = if v = u then none else cutAt v n.sites) :
    ∃ bt bo bc mo mc fo, NetAt w3 B b n' (t + 1) bt bo bc mo mc fo := by
  have m2 := MapIs.put (f := fun s => (textAt s n.sites).map fun x => DataW.lit (.string (bl x))) d1 d2 d3 d4 u _ o2
  obtain ⟨k3, hk3, m3⟩ := MapIs.del (f := fun s => (cutAt s n.sites).map fun x => DataW.lit (.int .i64 x)) g1 g2 g3 g4 u o3
  refine ⟨bt, bo, bc, mo, k3, fo, { h with hmo := Nat.le_succ_of_le h.hmo, hmc := Nat.le_trans hk3 (Nat.le_succ_of_le h.hmc), hcl := by rw [hc]; exact Nat.le_succ_of_le h.hcl, blk := ?_, texts := ?_, offs := ?_, off := fun s => by rw [ho]; exact h.off s, cuts := ?_ }⟩
  · rw [hc]; exact blk_turned (blk_turned h.blk ht2) ht3
  · have m2' := mapIs_turned m2 ht3 h.d2
    rw [Option.isSome_map, ← hl] at m2'
    rw [show (fun s => (textAt s n'.sites).map fun x => DataW.lit (H := Unit) (.string (bl x))) = fun v => if v = u then some (DataW.lit (.string (bl s))) else (textAt v n.sites).map fun x => DataW.lit (.string (bl x)) by
      funext v; rw [hx]; split <;> rfl]
    exact m2'
  · exact mapIs_turned (mapIs_turned h.offs ht2 (Ne.symm h.d1)) ht3 h.d3
  · rw [show (fun s => (cutAt s n'.sites).map fun x => DataW.lit (H := Unit) (.int .i64 x)) = fun v => if v = u then none else (cutAt v n.sites).map fun x => DataW.lit (.int .i64 x) by
      funext v; rw [hy]; split <;> rfl]
    exact m3

set_option maxHeartbeats 1000000 in
set_option maxRecDepth 100000 in
theorem netPut_any {E : Nat → Addr} (B b t : Nat) (n : NetB) (u s : ByteArray) (w : World) (h : NetIs w B b n t) (hu : u.size ≤ 100000) (hs : s.size ≤ 100000000) (hBw : B ≤ w.heap.size) (hE : NEnv E w) :
    Calls Tryz.prog 27 #[.pointer (some ⟨b, 0, none⟩), .string u, .string s] w (NetPost E B b t (putN n u s) w) := by
  have C := Lib.hid (linkCheck_any u w (by omega) hE.2)
  have HE := Lib.hid hE
  have HN := Lib.hid h
  clear hE h
  go_enter Tryz.func27, Tryz.ntmps27
  go_wp2_with fail
  refine C.out.mono ?_
  clear C
  rintro e w1 ⟨rfl, hb⟩
  obtain ⟨c, hc⟩ : ∃ c, linkE (bl u) = c := ⟨_, rfl⟩
  rw [hc]
  have HN1 := Lib.hid (HN.out.below hb)
  cases c with
  | succ c =>
    rw [show errV E (c + 1) = sentV E c from rfl]
    have hr : putN n u s = (c + 1, n) := by unfold putN; rw [hc, if_pos (by omega)]
    have HR := Lib.hid hr
    clear hc hr
    go_wp2_with fail
    go_ret
    rw [HR.out]
    exact NetPost.same HN1.out hb hBw rfl
  | zero =>
    rw [show errV E 0 = .nilIface from rfl]
    have HC := Lib.hid hc
    clear hc
    by_cases hs2 : 20000 < s.size
    · have hr : putN n u s = (2, n) := by unfold putN; rw [if_neg (by rw [HC.out]; simp), if_pos hs2]
      have HR := Lib.hid hr
      have e1 : w1.cell? ⟨1, 0, none⟩ = some (sentV E 1) := (HE.out.1.ext hb).err 1 (by decide)
      obtain ⟨hok, bt, bo, bc, mo, mc, fo, h1⟩ := HN1.out
      have c0 : w1.cell? ⟨b, 0, none⟩ = some (.map (some bt)) := by rw [Lib.cell_of_heap h1.blk]; rfl
      have hl := look_strs h1.texts u (by unfold maxLen; omega)
      clear h1 hr
      go_wp2_with fail
      go_ret
      rw [HR.out]
      exact NetPost.same HN1.out hb hBw rfl
    · rcases hx : siteAt u n.sites with _ | x
      · by_cases h60 : 60 ≤ n.sites.length
        · have hr : putN n u s = (8, n) := by unfold putN; rw [if_neg (by rw [HC.out]; simp), if_neg hs2, hx]; simp only; rw [if_pos h60]
          have HR := Lib.hid hr
          have e1 : w1.cell? ⟨2, 0, none⟩ = some (sentV E 7) := (HE.out.1.ext hb).err 7 (by decide)
          obtain ⟨hok, bt, bo, bc, mo, mc, fo, h1⟩ := HN1.out
          have c0 : w1.cell? ⟨b, 0, none⟩ = some (.map (some bt)) := by rw [Lib.cell_of_heap h1.blk]; rfl
          have hl := look_strs h1.texts u (by unfold maxLen; omega)
          obtain ⟨D, d1, d2, d3, d4⟩ := h1.texts
          have hn := fun ty => d1.len Tryz.underlying72 ty
          rw [d2] at hn
          rw [show textAt u n.sites = none by unfold textAt; rw [hx]; rfl] at hl
          simp only [Option.getD_none, Option.isSome_none] at hl
          clear h1 hr d1 d2 d3 d4 hok hx
          go_wp2_with fail
          go_ret
          rw [HR.out]
          exact NetPost.same HN1.out hb hBw rfl
        · have hr : putN n u s = (0, { n with sites := n.sites ++ [⟨u, s, -1⟩] }) := by unfold putN; rw [if_neg (by rw [HC.out]; simp), if_neg hs2, hx]; simp only; rw [if_neg h60]
          have HR := Lib.hid hr
          have hrok := putN_ok (u := u) (s := s) HN1.out.1 hu
          rw [hr] at hrok
          obtain ⟨hok, bt, bo, bc, mo, mc, fo, h1⟩ := HN1.out
          have c0 : w1.cell? ⟨b, 0, none⟩ = some (.map (some bt)) := by rw [Lib.cell_of_heap h1.blk]; rfl
          have hl := look_strs h1.texts u (by unfold maxLen; omega)
          obtain ⟨D, d1, d2, d3, d4⟩ := id h1.texts
          obtain ⟨D2, g1, g2, g3, g4⟩ := id h1.cuts
          have hn := fun ty => d1.len Tryz.underlying72 ty
          rw [d2] at hn
          rw [show textAt u n.sites = none by unfold textAt; rw [hx]; rfl] at hl
          simp only [Option.getD_none, Option.isSome_none] at hl
          have H1 := Lib.hid h1
          have Hd := Lib.hid d1
          have hlt : n.sites.length < maxLen := by have := hok.few; unfold maxLen; omega
          have Hrok := Lib.hid hrok
          have Hde := Lib.hid (And.intro d2 (And.intro d3 d4))
          have Hge := Lib.hid (And.intro g1 (And.intro g2 (And.intro g3 g4)))
          have hkl := keyLit u (by unfold maxLen; omega)
          have Hx := Lib.hid hx
          clear h1 hr d1 d2 d3 d4 g1 g2 g3 g4 hok hrok hx
          go_wp2_with (first
            | (at_mapUpdate; refine wpList_mapUpdate_in _ rfl _ _ _ 72 rfl 9 9 Tryz.strKeyed Tryz.underlying72 RStr bt n.sites.length D rfl Hd.out hlt _ _ _ rfl rfl hkl (.lit (.string (bl s))) [] (plainElem_string Tryz.underlying9 (by unfold maxLen; omega)) ?_; intro w2 hown2 hturn2; have Ho2 := Lib.hid hown2; have c2 := netAt_c2 H1.out hturn2; have Hg := Lib.hid (ownsMap_turned Hge.out.1 hturn2 H1.out.d2.symm); clear hown2)
            | (at_delete; refine wpList_delete_own _ rfl _ _ 74 9 rfl 3 Tryz.strKeyed Tryz.underlying74 RInt bc mc D2 rfl Hg.out _ _ rfl hkl ?_; intro w3 hown3 hturn3)
            | go_in)
          go_ret
          refine ⟨by rw [HR.out]; rfl, ?_, (KeepsU.of hb hBw).trans ((mapTurned_keeps hturn2 H1.out.ht (Nat.le_trans hBw hb.size) (by have := H1.out.et; omega)).trans (mapTurned_keeps hturn3 H1.out.hc (Nat.le_trans hBw (Nat.le_trans hb.size hturn2.grown.size)) (by have := H1.out.ec; omega)))⟩
          rw [HR.out]
          exact ⟨Hrok.out, netAt_put H1.out Hd.out Hde.out.1 Hde.out.2.1 Hde.out.2.2 Hge.out.1 Hge.out.2.1 Hge.out.2.2.1 Hge.out.2.2.2 Ho2.out hturn2 hown3 hturn3 rfl rfl (by show (n.sites ++ [_]).length = _; rw [show textAt u n.sites = none by unfold textAt; rw [Hx.out]; rfl]; simp) (fun v => textAt_app u s v n.sites Hx.out) (fun v => cutAt_app u s v n.sites Hx.out)⟩
      · have hr : putN n u s = (0, { n with sites := setSite u s (-1) n.sites }) := by unfold putN; rw [if_neg (by rw [HC.out]; simp), if_neg hs2, hx]
        have HR := Lib.hid hr
        have hrok := putN_ok (u := u) (s := s) HN1.out.1 hu
        rw [hr] at hrok
        obtain ⟨hok, bt, bo, bc, mo, mc, fo, h1⟩ := HN1.out
        have c0 : w1.cell? ⟨b, 0, none⟩ = some (.map (some bt)) := by rw [Lib.cell_of_heap h1.blk]; rfl
        have hl := look_strs h1.texts u (by unfold maxLen; omega)
        obtain ⟨D, d1, d2, d3, d4⟩ := id h1.texts
        obtain ⟨D2, g1, g2, g3, g4⟩ := id h1.cuts
        have hn := fun ty => d1.len Tryz.underlying72 ty
        rw [d2] at hn
        rw [show textAt u n.sites = some x.text by unfold textAt; rw [hx]; rfl] at hl
        simp only [Option.getD_some, Option.isSome_some] at hl
        have H1 := Lib.hid h1
        have Hd := Lib.hid d1
        have hlt : n.sites.length < maxLen := by have := hok.few; unfold maxLen; omega
        have Hrok := Lib.hid hrok
        have Hde := Lib.hid (And.intro d2 (And.intro d3 d4))
        have Hge := Lib.hid (And.intro g1 (And.intro g2 (And.intro g3 g4)))
        have hkl := keyLit u (by unfold maxLen; omega)
        have Hx := Lib.hid hx
        clear h1 hr d1 d2 d3 d4 g1 g2 g3 g4 hok hrok hx
        go_wp2_with (first
          | (at_mapUpdate; refine wpList_mapUpdate_in _ rfl _ _ _ 72 rfl 9 9 Tryz.strKeyed Tryz.underlying72 RStr bt n.sites.length D rfl Hd.out hlt _ _ _ rfl rfl hkl (.lit (.string (bl s))) [] (plainElem_string Tryz.underlying9 (by unfold maxLen; omega)) ?_; intro w2 hown2 hturn2; have Ho2 := Lib.hid hown2; have c2 := netAt_c2 H1.out hturn2; have Hg := Lib.hid (ownsMap_turned Hge.out.1 hturn2 H1.out.d2.symm); clear hown2)
          | (at_delete; refine wpList_delete_own _ rfl _ _ 74 9 rfl 3 Tryz.strKeyed Tryz.underlying74 RInt bc mc D2 rfl Hg.out _ _ rfl hkl ?_; intro w3 hown3 hturn3)
          | go_in)
        go_ret
        refine ⟨by rw [HR.out]; rfl, ?_, (KeepsU.of hb hBw).trans ((mapTurned_keeps hturn2 H1.out.ht (Nat.le_trans hBw hb.size) (by have := H1.out.et; omega)).trans (mapTurned_keeps hturn3 H1.out.hc (Nat.le_trans hBw (Nat.le_trans hb.size hturn2.grown.size)) (by have := H1.out.ec; omega)))⟩
        rw [HR.out]
        exact ⟨Hrok.out, netAt_put H1.out Hd.out Hde.out.1 Hde.out.2.1 Hde.out.2.2 Hge.out.1 Hge.out.2.1 Hge.out.2.2.1 Hge.out.2.2.2 Ho2.out hturn2 hown3 hturn3 rfl rfl (by show (setSite u s (-1) n.sites).length = _; rw [show textAt u n.sites = some x.text by unfold textAt; rw [Hx.out]; rfl]; have := congrArg List.length (setSite_map u s (-1) n.sites); simpa using this) (fun v => textAt_set u s v n.sites (by rw [Hx.out]; rfl)) (fun v => cutAt_set u s v n.sites)⟩
end Go.Proofs.YtomceddfbfpjjaaGreatDoor

namespace Go.Proofs.YtomceddfbfpjjaaGreatDoor
open Go Go.RowKit Go.Maps

theorem contains_bl (L : List ByteArray) (v : ByteArray) : (L.map bl).contains (bl v) = true ↔ v ∈ L := by
  rw [List.contains_iff_mem, List.mem_map]
  constructor
  · rintro ⟨x, hx, he⟩; rwa [← bl_eq he]
  · intro h; exact ⟨v, h, rfl⟩
theorem off_host (L : List ByteArray) (h v : ByteArray) (on : Bool) : ((L.filter (fun x => x ≠ h) ++ (if on then [] else [h])).map bl).contains (bl v) = if v = h then !on else (L.map bl).contains (bl v) := by
  by_cases hv : v = h
  · rw [if_pos hv, Bool.eq_iff_iff, contains_bl, List.mem_append, List.mem_filter]
    subst hv; cases on <;> simp
  · rw [if_neg hv, Bool.eq_iff_iff, contains_bl, contains_bl, List.mem_append, List.mem_filter]
    cases on <;> simp [hv]

theorem netAt_host {w1 w2 : World} {B b t bt bo bc mo mc k : Nat} {n : NetB} {fo : ByteArray → Option Bool} {D : DataW Unit} {u : ByteArray} {on : Bool} (h : NetAt w1 B b n t bt bo bc mo mc fo)
    (d1 : w1.ownsMap Tryz.prog 9 RBool bo mo D) (d2 : Maps.size D = mo) (d3 : ∀ s, Maps.has D (.string (bl s)) = ((fo s).map fun x => DataW.lit (H := Unit) (.bool x)).isSome) (d4 : ∀ s z, D.atKey (.string (bl s)) z = ((fo s).map fun x => DataW.lit (.bool x)).getD z)
    (o2 : w2.ownsMap Tryz.prog 9 RBool bo k (D.put (.string (bl u)) (.lit (.bool (!on))))) (ht2 : w1.mapTurned w2 bo) :
    ∃ bt bo bc mo mc fo, NetAt w2 B b { n with off := n.off.filter (fun x => x ≠ u) ++ (if on then [] else [u]) } (t + 1) bt bo bc mo mc fo := by
  have m2 := MapIs.put (f := fun s => (fo s).map fun x => DataW.lit (.bool x)) d1 d2 d3 d4 u _ o2
  refine ⟨bt, bo, bc, if ((fo u).map fun x => DataW.lit (H := Unit) (.bool x)).isSome = true then mo else mo + 1, mc, fun v => if v = u then some (!on) else fo v, { h with hmo := ?_, hmc := Nat.le_succ_of_le h.hmc, hcl := Nat.le_succ_of_le h.hcl, blk := blk_turned h.blk ht2, texts := mapIs_turned h.texts ht2 h.d1, offs := ?_, off := fun s => ?_, cuts := mapIs_turned h.cuts ht2 (Ne.symm h.d3) }⟩
  · have := h.hmo
    split <;> omega
  · rw [show (fun s => ((fun v => if v = u then some (!on) else fo v) s).map fun x => DataW.lit (H := Unit) (.bool x)) = fun v => if v = u then some (DataW.lit (.bool (!on))) else (fo v).map fun x => DataW.lit (.bool x) by
      funext v; dsimp only; split <;> rfl]
    exact m2
  · rw [off_host]
    split
    · rfl
    · exact h.off s

set_option maxHeartbeats 1000000 in
set_option maxRecDepth 100000 in
theorem netHost_any {E : Nat → Addr} (B b t : Nat) (n : NetB) (u : ByteArray) (on : Bool) (w : World) (h : NetIs w B b n t) (ht : t < 1000000000) (hu : u.size ≤ 100000) (hBw : B ≤ w.heap.size) (hE : NEnv E w) :
    Calls Tryz.prog 32 #[.pointer (some ⟨b, 0, none⟩), .string u, .bool on] w (NetPost E B b t (hostN n u on) w) := by
  have C := Lib.hid (part_any u w (by omega))
  have HE := Lib.hid hE
  have HN := Lib.hid h
  clear hE h
  go_enter Tryz.func32, Tryz.ntmps32
  go_wp2_with fail
  refine C.out.mono ?_
  clear C
  rintro e w1 ⟨rfl, hb⟩
  obtain ⟨p, hp⟩ : ∃ p, partB (bl u) = p := ⟨_, rfl⟩
  rw [hp]
  have HN1 := Lib.hid (HN.out.below hb)
  cases p with
  | false =>
    have hr : hostN n u on = (5, n) := by unfold hostN; rw [hp]; rfl
    have HR := Lib.hid hr
    have e1 : w1.cell? ⟨3, 0, none⟩ = some (sentV E 4) := (HE.out.1.ext hb).err 4 (by decide)
    clear hr hp
    go_wp2_with fail
    go_ret
    rw [HR.out]
    exact NetPost.same HN1.out hb hBw rfl
  | true =>
    have hr : hostN n u on = (0, { n with off := n.off.filter (fun x => x ≠ u) ++ (if on then [] else [u]) }) := by unfold hostN; rw [hp]; rfl
    have HR := Lib.hid hr
    have hrok := hostN_ok (u := u) (on := on) HN1.out.1
    rw [hr] at hrok
    obtain ⟨hok, bt, bo, bc, mo, mc, fo, h1⟩ := HN1.out
    have c1 : w1.cell? ⟨b, 1, none⟩ = some (.map (some bo)) := by rw [Lib.cell_of_heap h1.blk]; rfl
    obtain ⟨D, d1, d2, d3, d4⟩ := id h1.offs
    have H1 := Lib.hid h1
    have Hd := Lib.hid d1
    have hlt : mo < maxLen := by have := h1.hmo; unfold maxLen; omega
    have Hrok := Lib.hid hrok
    have Hde := Lib.hid (And.intro d2 (And.intro d3 d4))
    have hkl := keyLit u (by unfold maxLen; omega)
    clear h1 hr d1 d2 d3 d4 hok hrok hp
    go_wp2_with (first
      | (at_mapUpdate; refine wpList_mapUpdate_in _ rfl _ _ _ 73 rfl 9 4 Tryz.strKeyed Tryz.underlying73 RBool bo mo D rfl Hd.out hlt _ _ _ rfl rfl hkl (.lit (.bool (!on))) [] (plainElem_bool Tryz.underlying4 _) ?_; intro w2 hown2 hturn2)
      | go_in)
    go_ret
    refine ⟨by rw [HR.out]; rfl, ?_, (KeepsU.of hb hBw).trans (mapTurned_keeps hturn2 H1.out.ho (Nat.le_trans hBw hb.size) (by have := H1.out.eo; omega))⟩
    rw [HR.out]
    exact ⟨Hrok.out, netAt_host H1.out Hd.out Hde.out.1 Hde.out.2.1 Hde.out.2.2 hown2 hturn2⟩

theorem netAt_cut {w1 w2 : World} {B b t bt bo bc mo mc k : Nat} {n : NetB} {fo : ByteArray → Option Bool} {D : DataW Unit} {u : ByteArray} {c : Int} (h : NetAt w1 B b n t bt bo bc mo mc fo) (hc : 0 ≤ c) (hs : (siteAt u n.sites).isSome = true)
    (d1 : w1.ownsMap Tryz.prog 9 RInt bc mc D) (d2 : Maps.size D = mc) (d3 : ∀ s, Maps.has D (.string (bl s)) = ((cutAt s n.sites).map fun x => DataW.lit (H := Unit) (.int .i64 x)).isSome) (d4 : ∀ s z, D.atKey (.string (bl s)) z = ((cutAt s n.sites).map fun x => DataW.lit (.int .i64 x)).getD z)
    (o2 : w2.ownsMap Tryz.prog 9 RInt bc k (D.put (.string (bl u)) (.lit (.int .i64 c)))) (ht2 : w1.mapTurned w2 bc) :
    ∃ bt bo bc mo mc fo, NetAt w2 B b { n with sites := setCut u c n.sites } (t + 1) bt bo bc mo mc fo := by
  have m2 := MapIs.put (f := fun s => (cutAt s n.sites).map fun x => DataW.lit (.int .i64 x)) d1 d2 d3 d4 u _ o2
  have hlen : (setCut u c n.sites).length = n.sites.length := by
    have := congrArg List.length (setCut_map u c n.sites)
    simpa using this
  refine ⟨bt, bo, bc, mo, if ((cutAt u n.sites).map fun x => DataW.lit (H := Unit) (.int .i64 x)).isSome = true then mc else mc + 1, fo, { h with hmo := Nat.le_succ_of_le h.hmo, hmc := ?_, hcl := Nat.le_succ_of_le h.hcl, blk := blk_turned h.blk ht2, texts := ?_, offs := mapIs_turned h.offs ht2 h.d3, cuts := ?_ }⟩
  · have := h.hmc
    split <;> omega
  · have := mapIs_turned h.texts ht2 h.d2
    rw [show (fun s => (textAt s (setCut u c n.sites)).map fun x => DataW.lit (H := Unit) (.string (bl x))) = fun s => (textAt s n.sites).map fun x => DataW.lit (.string (bl x)) by
      funext v; rw [textAt_cut]]
    show MapIs RStr w2 bt (setCut u c n.sites).length _
    rw [hlen]
    exact this
  · rw [show (fun s => (cutAt s (setCut u c n.sites)).map fun x => DataW.lit (H := Unit) (.int .i64 x)) = fun v => if v = u then some (DataW.lit (.int .i64 c)) else (cutAt v n.sites).map fun x => DataW.lit (.int .i64 x) by
      funext v; rw [cutAt_cut u v c hc n.sites hs]; split <;> rfl]
    exact m2

set_option maxHeartbeats 1000000 in
set_option maxRecDepth 100000 in
theorem netCut_any {E : Nat → Addr} (B b t : Nat) (n : NetB) (u : ByteArray) (k : Int) (w : World) (h : NetIs w B b n t) (ht : t < 1000000000) (hu : u.size ≤ 100000) (hk : -9223372036854775808 ≤ k ∧ k ≤ 9223372036854775807) (hBw : B ≤ w.heap.size) (hE : NEnv E w) :
    Calls Tryz.prog 34 #[.pointer (some ⟨b, 0, none⟩), .string u, .int .i64 k] w (NetPost E B b t (cutN n u k) w) := by
  have HE := Lib.hid hE
  have HN1 := Lib.hid h
  clear hE h
  obtain ⟨hok, bt, bo, bc, mo, mc, fo, h1⟩ := HN1.out
  have c0 : w.cell? ⟨b, 0, none⟩ = some (.map (some bt)) := by rw [Lib.cell_of_heap h1.blk]; rfl
  have c2 : w.cell? ⟨b, 2, none⟩ = some (.map (some bc)) := by rw [Lib.cell_of_heap h1.blk]; rfl
  have hl := look_strs h1.texts u (by unfold maxLen; omega)
  rcases hx : siteAt u n.sites with _ | x
  · have hr : cutN n u k = (6, n) := by unfold cutN; rw [hx]
    have HR := Lib.hid hr
    have e1 : w.cell? ⟨4, 0, none⟩ = some (sentV E 5) := HE.out.1.err 5 (by decide)
    rw [show textAt u n.sites = none by unfold textAt; rw [hx]; rfl] at hl
    simp only [Option.getD_none, Option.isSome_none] at hl
    clear hr hx h1 hok
    go_enter Tryz.func34, Tryz.ntmps34
    go_wp2_with fail
    go_ret
    rw [HR.out]
    exact NetPost.same HN1.out (Below.refl _ _) hBw rfl
  · rw [show textAt u n.sites = some x.text by unfold textAt; rw [hx]; rfl] at hl
    simp only [Option.getD_some, Option.isSome_some] at hl
    by_cases hk0 : k < 0
    · have hr : cutN n u k = (2, n) := by unfold cutN; rw [hx]; simp only; rw [if_pos hk0]
      have HR := Lib.hid hr
      have e1 : w.cell? ⟨1, 0, none⟩ = some (sentV E 1) := HE.out.1.err 1 (by decide)
      clear hr hx h1 hok
      go_enter Tryz.func34, Tryz.ntmps34
      go_wp2_with fail
      go_ret
      rw [HR.out]
      exact NetPost.same HN1.out (Below.refl _ _) hBw rfl
    · have hr : cutN n u k = (0, { n with sites := setCut u k n.sites }) := by unfold cutN; rw [hx]; simp only; rw [if_neg hk0]
      have HR := Lib.hid hr
      have hrok := cutN_ok (u := u) (k := k) hok hk.2
      rw [hr] at hrok
      obtain ⟨D, d1, d2, d3, d4⟩ := id h1.cuts
      have H1 := Lib.hid h1
      have Hd := Lib.hid d1
      have hlt : mc < maxLen := by have := h1.hmc; unfold maxLen; omega
      have Hrok := Lib.hid hrok
      have Hde := Lib.hid (And.intro d2 (And.intro d3 d4))
      have hkl := keyLit u (by unfold maxLen; omega)
      have Hx := Lib.hid hx
      have hwf : (Lit.int .i64 k).wf = true := WalkArith.wf_i64 (by omega)
      clear h1 hr d1 d2 d3 d4 hok hrok hx
      go_enter Tryz.func34, Tryz.ntmps34
      go_wp2_with (first
        | (at_mapUpdate; refine wpList_mapUpdate_in _ rfl _ _ _ 74 rfl 9 3 Tryz.strKeyed Tryz.underlying74 RInt bc mc D rfl Hd.out hlt _ _ _ rfl rfl hkl (.lit (.int .i64 k)) [] (plainElem_int Tryz.underlying3 hwf) ?_; intro w2 hown2 hturn2)
        | go_in)
      go_ret
      refine ⟨by rw [HR.out]; rfl, ?_, mapTurned_keeps hturn2 H1.out.hc hBw (by have := H1.out.ec; omega)⟩
      rw [HR.out]
      exact ⟨Hrok.out, netAt_cut H1.out (by omega) (by rw [Hx.out]; rfl) Hd.out Hde.out.1 Hde.out.2.1 Hde.out.2.2 hown2 hturn2⟩

set_option maxRecDepth 100000 in
theorem netCalls_any (B b t : Nat) (n : NetB) (w : World) (h : NetIs w B b n t) :
    Calls Tryz.prog 23 #[.pointer (some ⟨b, 0, none⟩)] w fun e w' => e = .returned (.int .i64 n.calls) ∧ w' = w := by
  obtain ⟨hok, bt, bo, bc, mo, mc, fo, h1⟩ := h
  have c3 : w.cell? ⟨b, 3, none⟩ = some (.int .i64 n.calls) := by rw [Lib.cell_of_heap h1.blk]; rfl
  clear h1 hok
  go_enter Tryz.func23, Tryz.ntmps23
  go_wp2_with fail
  go_ret
  exact ⟨rfl, rfl⟩
/-- What Get answers and leaves. -/
def GetPost (E : Nat → Addr) (B b t : Nat) (r : List UInt8 × Nat × NetB) (w : World) (e : Ending) (w' : World) : Prop :=
  ∃ x : ByteArray, e = .returned (.tuple #[.string x, errV E r.2.1]) ∧ Hid (bl x = r.1) ∧ NetIs w' B b r.2.2 (t + 1) ∧ KeepsU 4 b NetRow B w w'
theorem netAt_calls {w w' : World} {B b t bt bo bc mo mc : Nat} {n : NetB} {fo : ByteArray → Option Bool} (h : NetAt w B b n t bt bo bc mo mc fo) (hw : w' = w.setCell ⟨b, 3, none⟩ (.int .i64 ((n.calls + 1 : Nat) : Int))) :
    NetAt w' B b { n with calls := n.calls + 1 } (t + 1) bt bo bc mo mc fo ∧ KeepsU 4 b NetRow B w w' := by
  subst hw
  have hne : ∀ {R : Value → Option (DataW Unit × List MemPlace)} {c m : Nat} {f : ByteArray → Option (DataW Unit)}, MapIs R w c m f → (w.setCell ⟨b, 3, none⟩ (.int .i64 ((n.calls + 1 : Nat) : Int))).heap[c]? = w.heap[c]? := by
    intro R c m f hc
    refine Below.heap_setCell _ _ _ _ (fun e => ?_)
    obtain ⟨es, cl, h1⟩ := hc.isMap
    rw [show c = b from e, h.blk] at h1
    cases h1
  refine ⟨{ h with hmo := Nat.le_succ_of_le h.hmo, hmc := Nat.le_succ_of_le h.hmc, hcl := Nat.succ_le_succ h.hcl, blk := ?_, texts := h.texts.keep (hne h.texts), offs := h.offs.keep (hne h.offs), cuts := h.cuts.keep (hne h.cuts) }, ?_⟩
  · simp [World.setCell, Array.getElem?_modify, h.blk]
  · refine ⟨⟨(Below.refl B w).setCell (p := ⟨b, 3, none⟩) h.hb _, fun k o hk hn => ?_⟩, fun k _ hkb => Below.heap_setCell _ _ _ _ (fun e => by have e2 : k = b := e; omega)⟩
    rw [Below.heap_setCell _ _ _ _ (fun e => hn ?_)]
    · exact hk
    · rw [show k = b from e, h.blk] at hk
      cases hk
      exact .inr ⟨_, _, rfl⟩

theorem lkH_len (s : List UInt8) : (lkH s).length ≤ s.length := by
  have cl : ∀ l sep : List UInt8, (Lib.cut l sep).1.length ≤ l.length ∧ (Lib.cut l sep).2.1.length ≤ l.length := by
    intro l sep
    unfold Lib.cut
    split
    · constructor
      · simp; omega
      · simp
    · simp
  unfold lkH lkR
  have h1 := (cl s sepL).2
  have h2 := (cl (Lib.cut s sepL).2.1 [47]).1
  omega
theorem getPost_mk {E : Nat → Addr} {B b t c : Nat} {n : NetB} {w1 w2 w : World} {bt bo bc mo mc : Nat} {fo : ByteArray → Option Bool} {l : List UInt8} {x : ByteArray} {v : Value} {u : ByteArray} (hok : NetOk n) (h : NetAt w1 B b n t bt bo bc mo mc fo) (hw : w2 = w1.setCell ⟨b, 3, none⟩ (.int .i64 ((n.calls + 1 : Nat) : Int)))
    (hb : Below w.heap.size w w1) (hB : B ≤ w.heap.size) (hr : getN n u = (l, c, { n with calls := n.calls + 1 })) (hx : bl x = l) (hv : v = errV E c) : GetPost E B b t (getN n u) w (.returned (.tuple #[.string x, v])) w2 := by
  obtain ⟨h1, h2⟩ := netAt_calls h hw
  rw [hr, hv]
  exact ⟨x, rfl, hx, ⟨⟨hok.apart, hok.few, hok.small⟩, _, _, _, _, _, _, h1⟩, (KeepsU.of hb hB).trans h2⟩

theorem GetPost.drewN {E : Nat → Addr} {B b t : Nat} {r : List UInt8 × Nat × NetB} {w w' : World} {e : Ending} (h : GetPost E B b t r w e w') (k : Nat) (hB : B ≤ w.heap.size) : GetPost E B b t r w e (w'.drewN k) := by
  obtain ⟨x, h1, h2, h3, h4⟩ := h
  exact ⟨x, h1, h2, h3.below (below_drewN _ _ _), h4.trans (KeepsU.of (below_drewN _ _ _) (Nat.le_trans hB h4.below.size))⟩

set_option maxHeartbeats 1000000 in
set_option maxRecDepth 100000 in
theorem netGet_any {E : Nat → Addr} (B b t : Nat) (n : NetB) (u : ByteArray) (w : World) (h : NetIs w B b n t) (ht : t < 1000000000) (hu : u.size ≤ 100000) (hBw : B ≤ w.heap.size) (hE : NEnv E w) (hG : ∀ k, k < 13 → gE k < B) :
    Calls Tryz.prog 36 #[.pointer (some ⟨b, 0, none⟩), .string u] w (GetPost E B b t (getN n u) w) := by
  have C := Lib.hid (linkHost_any u w (by omega) hE.2)
  have HN := Lib.hid h
  have HE := Lib.hid hE
  have hg13 : 5 < B := hG 12 (by decide)
  have hg6 : 4 < B := hG 5 (by decide)
  clear hE h hG
  go_enter Tryz.func36, Tryz.ntmps36
  go_wp2_with fail
  refine C.out.mono ?_
  clear C
  rintro e w1 ⟨⟨z, rfl, HZ⟩, hb⟩
  obtain ⟨c, hc⟩ : ∃ c, linkE (bl u) = c := ⟨_, rfl⟩
  rw [hc]
  have HN1 := Lib.hid (HN.out.below hb)
  cases c with
  | succ c =>
    rw [show errV E (c + 1) = sentV E c from rfl]
    have hr : getN n u = ([], c + 1, n) := by unfold getN; rw [hc, if_pos (by omega)]
    have HR := Lib.hid hr
    clear hc hr
    go_wp2_with fail
    go_ret2
    rw [HR.out]
    exact ⟨⟨#[]⟩, rfl, rfl, HN1.out.later (Nat.le_succ _), KeepsU.of hb hBw⟩
  | zero =>
    rw [show errV E 0 = .nilIface from rfl]
    have hz : bl z = lkH (bl u) := by rw [HZ.out, hc, if_pos rfl]
    obtain ⟨hok, bt, bo, bc, mo, mc, fo, h1⟩ := HN1.out
    have c3 : w1.cell? ⟨b, 3, none⟩ = some (.int .i64 n.calls) := by rw [Lib.cell_of_heap h1.blk]; rfl
    have f3 : w1.frozen? ⟨b, 3, none⟩ = false := Lib.frozen_of_heap h1.blk 3
    have hcl := h1.hcl
    obtain ⟨w2, hw2⟩ : ∃ w2, w2 = w1.setCell ⟨b, 3, none⟩ (.int .i64 ((n.calls + 1 : Nat) : Int)) := ⟨_, rfl⟩
    obtain ⟨h2, hk2⟩ := netAt_calls h1 hw2
    have c0 : w1.cell? ⟨b, 0, none⟩ = some (.map (some bt)) := by rw [Lib.cell_of_heap h1.blk]; rfl
    have c1 : w1.cell? ⟨b, 1, none⟩ = some (.map (some bo)) := by rw [Lib.cell_of_heap h1.blk]; rfl
    have c2 : w1.cell? ⟨b, 2, none⟩ = some (.map (some bc)) := by rw [Lib.cell_of_heap h1.blk]; rfl
    have e13 : w1.cell? ⟨5, 0, none⟩ = some (sentV E 12) := (HE.out.1.ext hb).err 12 (by decide)
    have e6 : w1.cell? ⟨4, 0, none⟩ = some (sentV E 5) := (HE.out.1.ext hb).err 5 (by decide)
    have hl := look_strs h2.texts u (by unfold maxLen; omega)
    have hzl := lkH_len (bl u)
    rw [← hz, bl_length, bl_length] at hzl
    have hlo := look_bools h2.offs z (by unfold maxLen; omega)
    have hlc := look_ints h2.cuts u (by unfold maxLen; omega)
    have ho := h2.off z
    rw [ho] at hlo
    have hw2' : w2 = w1.setCell ⟨b, 3, none⟩ (.int .i64 ((n.calls : Int) + 1)) := hw2
    rw [hw2'] at hl hlo hlc
    have HH := Lib.hid h1
    have Hok := Lib.hid hok
    have hbB := h1.hb
    have HW : Hid (w1.setCell ⟨b, 3, none⟩ (.int .i64 ((n.calls : Int) + 1)) = w1.setCell ⟨b, 3, none⟩ (.int .i64 ((n.calls + 1 : Nat) : Int))) := Lib.hid rfl
    dsimp only at hl hlc
    have HC := Lib.hid hc
    rw [hz] at hlo
    have HZ2 := Lib.hid hz
    obtain ⟨o, hoo⟩ : ∃ o, (n.off.map bl).contains (lkH (bl u)) = o := ⟨_, rfl⟩
    rw [hoo] at hlo
    have HO := Lib.hid hoo
    clear h1 h2 hk2 hok hw2 hw2' hc hz hoo ho hzl w2
    cases o with
    | true =>
      have hr : getN n u = ([], 13, { n with calls := n.calls + 1 }) := by unfold getN; rw [HC.out, if_neg (by simp), if_pos HO.out]
      have HR := Lib.hid hr
      clear hr
      go_wp2_with fail
      go_quiet (fail)
      go_wp2_with fail
      go_ret2
      exact (getPost_mk Hok.out HH.out HW.out hb hBw HR.out rfl rfl).drewN _ hBw
    | false =>
      rcases hx : siteAt u n.sites with _ | x
      · have hr : getN n u = ([], 6, { n with calls := n.calls + 1 }) := by unfold getN; rw [HC.out, if_neg (by simp), if_neg (by rw [HO.out]; simp), hx]
        have HR := Lib.hid hr
        rw [show textAt u n.sites = none by unfold textAt; rw [hx]; rfl] at hl
        simp only [Option.getD_none, Option.isSome_none] at hl
        clear hr hx
        go_wp2_with fail
        go_quiet (fail)
        go_wp2_with fail
        go_ret2
        exact (getPost_mk Hok.out HH.out HW.out hb hBw HR.out rfl rfl).drewN _ hBw
      · have hr : getN n u = (cutText x.text x.cut, 0, { n with calls := n.calls + 1 }) := by unfold getN; rw [HC.out, if_neg (by simp), if_neg (by rw [HO.out]; simp), hx]
        have HR := Lib.hid hr
        have hxm := siteAt_url hx
        obtain ⟨_, hx2, hx3, hx4⟩ := Hok.out.small x hxm.2
        rw [show textAt u n.sites = some x.text by unfold textAt; rw [hx]; rfl] at hl
        simp only [Option.getD_some, Option.isSome_some] at hl
        by_cases hx0 : 0 ≤ x.cut
        · rw [show cutAt u n.sites = some x.cut by unfold cutAt; rw [hx]; simp [hx0]] at hlc
          simp only [Option.getD_some, Option.isSome_some] at hlc
          by_cases hxc : x.cut < x.text.size
          · have sl := slice_to x.text x.cut x.cut.toNat (by omega) (by omega)
            have hfin : bl (x.text.extract 0 x.cut.toNat) = cutText x.text x.cut := by
              unfold cutText
              rw [if_pos ⟨hx0, hxc⟩, bl_extract]; simp
            have HF := Lib.hid hfin
            have hmin : min x.cut (x.text.size : Int) = x.cut := by omega
            clear hr hx hxm hfin
            go_wp2_with fail
            go_ret2
            exact getPost_mk Hok.out HH.out HW.out hb hBw HR.out HF.out rfl
          · have sl := slice_to x.text x.text.size x.text.size (by omega) rfl
            have hfin : bl x.text = cutText x.text x.cut := by unfold cutText; rw [if_neg (by omega)]
            have HF := Lib.hid hfin
            have hmin : min x.cut (x.text.size : Int) = x.text.size := by omega
            clear hr hx hxm hfin
            go_wp2_with fail
            go_ret2
            exact getPost_mk Hok.out HH.out HW.out hb hBw HR.out HF.out rfl
        · rw [show cutAt u n.sites = none by unfold cutAt; rw [hx]; simp [hx0]] at hlc
          simp only [Option.getD_none, Option.isSome_none] at hlc
          have hfin : bl x.text = cutText x.text x.cut := by unfold cutText; rw [if_neg (by omega)]
          have HF := Lib.hid hfin
          clear hr hx hxm hfin
          go_wp2_with fail
          go_ret2
          exact getPost_mk Hok.out HH.out HW.out hb hBw HR.out HF.out rfl
end Go.Proofs.YtomceddfbfpjjaaGreatDoor
