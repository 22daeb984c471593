/- What is bundled is loaded elsewhere: in plain Lean. Steps of a bundle: what is held, what is grafted, split and loaded: in plain Lean. -/
import Derived.Test.YtgchgdkpipanjaaGreatDoorJLockPlains
import Derived.Test.YtgchgdkpipanjaaGreatDoorJWantPlains
import Derived.Test.YtgchgdkpipanjaaGreatDoorJTreePlains
namespace Go.Proofs.YtgchgdkpipanjaaGreatDoor
open Go

/-- A part is a path. -/
theorem part_path {l : List UInt8} (h : partB l = true) : partsE l = 0 ∧ (47 : UInt8) ∉ l := by
  have hf := part_free h
  refine ⟨?_, hf⟩
  unfold partsE
  rw [cutL_no hf]
  simp [h]
theorem part_notIn {a b : List UInt8} (h : partB a = true) (hb : b ≠ []) : inB a b = false := by
  unfold inB
  have h1 : Lib.hasPrefix a (b ++ [47]) = false := by
    cases hp : Lib.hasPrefix a (b ++ [47]) with
    | false => rfl
    | true =>
      have e := hasPrefix_app hp
      exact absurd (by rw [e]; simp) (part_free h)
  rw [h1, decide_eq_false hb]
  simp
theorem Grafted.other {l m z : List FileB} {b : ByteArray} (h : Grafted l b m z) (a : ByteArray) (hn : ∀ f ∈ m, inB (bl b ++ 47 :: bl f.path) (bl a) = false) : underL z a = underL l a := by
  have hm : (m.map (joinF b)).filter (fun g => inB (bl g.path) (bl a)) = [] := List.filter_eq_nil_iff.2 fun g hg => by
    obtain ⟨f, hf, rfl⟩ := List.mem_map.1 hg
    rw [(h.path hf).1, hn f hf]; simp
  have hp := h.perm.filter (fun g => inB (bl g.path) (bl a))
  rw [List.filter_append, hm, List.append_nil] at hp
  unfold underL
  rw [strict_unique (h.ok.strict.sublist List.filter_sublist) (h.hl.strict.sublist List.filter_sublist) hp]
theorem held_ok {h : HeldB} (k : HeldOk h) {n : Int} {l : List FileB} (hl : getL h.trees n = some l) : (treeEr l).code = 0 ∧ n = treeSum l := k.right _ (getL_some hl)
def treeOf (h : HeldB) (w : WantB) : List FileB := (getL h.trees w.sum).getD []
/-- What the grafts so far have made. -/
structure MadeOf (h : HeldB) (P : List WantB) (all : List FileB) : Prop where
  ok : TreeOk all
  under : ∀ w ∈ P, underL all w.name = treeOf h w
  mem : ∀ g ∈ all, ∃ w ∈ P, ∃ r, bl g.path = bl w.name ++ 47 :: r
theorem names_apart {x y : WantB} (hx : partB (bl x.name) = true) (hy : partB (bl y.name) = true) (hne : x.name ≠ y.name) (r : List UInt8) : inB (bl x.name ++ 47 :: r) (bl y.name) = false :=
  not_in (part_path hy).1 (part_path hx).1 (fun e => hne (bl_inj e.symm)) (part_notIn hy (part_ne hx).1) (part_notIn hx (part_ne hy).1)
theorem MadeOf.step {h : HeldB} {P : List WantB} {all z : List FileB} {w : WantB} (hM : MadeOf h P all) (hP : ∀ x ∈ P, partB (bl x.name) = true ∧ x.name ≠ w.name) (hw : partB (bl w.name) = true) (hg : Grafted all w.name (treeOf h w) z) : MadeOf h (P ++ [w]) z := by
  have h0 : (underL all w.name).length = 0 := by
    unfold underL
    rw [List.length_map, List.filter_eq_nil_iff.2]
    · rfl
    · intro g hgm
      obtain ⟨x, hx, r, e⟩ := hM.mem g hgm
      rw [e, names_apart (hP x hx).1 hw (hP x hx).2]; simp
  refine ⟨hg.ok, fun x hx => ?_, fun g hgm => ?_⟩
  · rcases List.mem_append.1 hx with hx | hx
    · rw [hg.other x.name fun f hf => names_apart hw (hP x hx).1 (hP x hx).2.symm _]
      exact hM.under x hx
    · obtain rfl := List.mem_singleton.1 hx
      exact hg.underEq h0
  · rcases List.mem_append.1 (hg.perm.subset hgm) with hgm | hgm
    · obtain ⟨x, hx, r, e⟩ := hM.mem g hgm
      exact ⟨x, List.mem_append_left _ hx, r, e⟩
    · obtain ⟨f, hf, rfl⟩ := List.mem_map.1 hgm
      exact ⟨w, List.mem_append_right _ (List.mem_singleton.2 rfl), _, (hg.path hf).1⟩
theorem grafts_made (h : HeldB) : ∀ (l P : List WantB) (all : List FileB), MadeOf h P all → (P ++ l).Pairwise wLt → (∀ x ∈ P ++ l, partB (bl x.name) = true) → (graftsGo h all l).1 = 0 → MadeOf h (P ++ l) (graftsGo h all l).2
  | [], P, all, hM, _, _, _ => by rw [List.append_nil]; exact hM
  | w :: l, P, all, hM, hs, hp, h0 => by
    unfold graftsGo at h0 ⊢
    by_cases hc : (graftT all w.name ((getL h.trees w.sum).getD [])).1.code ≠ 0
    · rw [if_pos hc] at h0; exact absurd h0 hc
    · rw [if_neg hc] at h0 ⊢
      obtain ⟨hg, _⟩ := graft_ok (by simpa using hc)
      have hst := hM.step (w := w) (fun x hx => ⟨hp x (List.mem_append_left _ hx), ((List.pairwise_append.1 hs).2.2 x hx w (List.mem_cons_self ..)).ne⟩) (hp w (List.mem_append_right _ (List.mem_cons_self ..))) hg
      have e : P ++ w :: l = (P ++ [w]) ++ l := by simp
      rw [e] at hs hp ⊢
      exact grafts_made h l (P ++ [w]) _ hst hs hp h0
theorem miss_none (h : HeldB) : ∀ (l : List WantB) (i : Nat), missGo h i l = none ↔ ∀ w ∈ l, (ixOf w.sum h.sums).isSome = true
  | [], i => by simp [missGo]
  | w :: l, i => by
    unfold missGo
    by_cases hw : (ixOf w.sum h.sums).isSome = true
    · rw [if_pos hw, miss_none h l (i + 1)]
      constructor
      · intro e x hx
        rcases List.mem_cons.1 hx with rfl | hx
        · exact hw
        · exact e x hx
      · exact fun e x hx => e x (List.mem_cons_of_mem _ hx)
    · rw [if_neg hw]
      exact ⟨fun e => (by cases e), fun e => absurd (e w (List.mem_cons_self ..)) hw⟩
theorem treeOf_some {h : HeldB} {w : WantB} (hw : (ixOf w.sum h.sums).isSome = true) : getL h.trees w.sum = some (treeOf h w) := by
  unfold treeOf
  have hm := ixOf_isSome.1 hw
  cases hg : getL h.trees w.sum with
  | some t => rfl
  | none =>
    exfalso
    have key : ∀ (L : List (Int × List FileB)), getL L w.sum = none → w.sum ∉ L.map (·.1) := by
      intro L
      induction L with
      | nil => intro _ h; cases h
      | cons p L ih =>
        intro hL hm
        unfold getL at hL
        split at hL
        · cases hL
        · rename_i hne
          rcases List.mem_cons.1 hm with e | hm
          · exact hne e.symm
          · exact ih hL hm
    exact key _ hg hm
/-- A bundle, and what is told of it. -/
structure Bundled (h : HeldB) (l : List WantB) (all : List FileB) : Prop where
  lock : LockOk l
  held : ∀ w ∈ l, (ixOf w.sum h.sums).isSome = true
  made : MadeOf h l all
  eq : (graftsGo h [] l) = (0, all)
theorem bundle_ok {h : HeldB} {l : List WantB} (h0 : (bundleLk h l).1.code = 0) : ∃ all, bundleLk h l = (⟨0, none⟩, packL all) ∧ Bundled h l all := by
  unfold bundleLk at h0 ⊢
  by_cases h1 : (lockEr l).code ≠ 0
  · rw [if_pos h1] at h0; exact absurd h0 h1
  rw [if_neg h1] at h0 ⊢
  have hl := (lockOk_iff l).1 (by simpa using h1)
  cases hm : missGo h 0 l with
  | some i => rw [hm] at h0; cases h0
  | none =>
    rw [hm] at h0
    simp only at h0 ⊢
    by_cases h2 : (graftsGo h [] l).1 ≠ 0
    · rw [if_pos h2] at h0; exact absurd h0 h2
    rw [if_neg h2]
    have h3 : (graftsGo h [] l).1 = 0 := by simpa using h2
    have hp : ∀ x ∈ [] ++ l, partB (bl x.name) = true := fun x hx => (wantE_zero (hl.each x hx)).name
    have hmade := grafts_made h l [] [] ⟨(treeOk_iff []).1 rfl, (fun w hw => by cases hw), (fun g hg => by cases hg)⟩ hl.strict hp h3
    exact ⟨_, rfl, ⟨hl, (miss_none h l 0).1 hm, hmade, Prod.ext h3 rfl⟩⟩
theorem bundle_bad {h : HeldB} {l : List WantB} (h0 : (bundleLk h l).1.code ≠ 0) : (bundleLk h l).2 = [] := by
  unfold bundleLk at h0 ⊢
  by_cases h1 : (lockEr l).code ≠ 0
  · rw [if_pos h1]
  rw [if_neg h1] at h0 ⊢
  cases hm : missGo h 0 l with
  | some i => rfl
  | none =>
    rw [hm] at h0
    simp only at h0 ⊢
    by_cases h2 : (graftsGo h [] l).1 ≠ 0
    · rw [if_pos h2]
    · rw [if_neg h2] at h0; exact absurd rfl h0
theorem splitGo_ok (all : List FileB) (h : HeldB) (hk : HeldOk h) : ∀ (l : List WantB) (i : Nat), (∀ w ∈ l, underL all w.name = treeOf h w ∧ (ixOf w.sum h.sums).isSome = true) → splitGo all i l = (⟨0, none⟩, l.map (treeOf h))
  | [], i, _ => rfl
  | w :: l, i, hw => by
    obtain ⟨e, hs⟩ := hw w (List.mem_cons_self ..)
    have hr := held_ok hk (treeOf_some hs)
    unfold splitGo
    rw [e, if_neg (by rw [hr.1]; simp), if_neg (by rw [← hr.2]; simp), splitGo_ok all h hk l (i + 1) fun x hx => hw x (List.mem_cons_of_mem _ hx)]
    rfl
/-- What has been loaded so far. -/
structure Loaded (h : HeldB) (o : HeldB) (P : List WantB) : Prop where
  ok : HeldOk o
  most : o.most = 40
  len : o.trees.length ≤ P.length
  from' : ∀ p ∈ o.trees, getL h.trees p.1 = some p.2
  has : ∀ w ∈ P, w.sum ∈ o.sums
theorem Loaded.step {h o : HeldB} {P : List WantB} {w : WantB} (hk : HeldOk h) (hL : Loaded h o P) (hP : P.length < 40) (hw : (ixOf w.sum h.sums).isSome = true) :
    (putH o (treeOf h w)).1.code = 0 ∧ Loaded h (putH o (treeOf h w)).2.2 (P ++ [w]) := by
  have hg := treeOf_some hw
  have hr := held_ok hk hg
  have hok := putH_ok (treeOf h w) hL.ok
  have hlen := hL.len
  unfold putH at hok ⊢
  rw [if_neg (by rw [hr.1]; simp), if_neg (by rw [hL.most]; simp), ← hr.2] at hok ⊢
  by_cases hx : (ixOf w.sum o.sums).isSome = true
  · rw [if_pos hx]
    refine ⟨rfl, hL.ok, hL.most, by rw [List.length_append]; exact Nat.le_trans hlen (Nat.le_add_right _ _), hL.from', fun x hxm => ?_⟩
    rcases List.mem_append.1 hxm with hxm | hxm
    · exact hL.has x hxm
    · obtain rfl := List.mem_singleton.1 hxm; exact ixOf_isSome.1 hx
  · rw [if_neg hx] at hok ⊢
    rw [if_neg (by rw [hL.most]; omega), List.drop_zero] at hok ⊢
    refine ⟨rfl, hok, hL.most, by simp; omega, fun p hp => ?_, fun x hxm => ?_⟩
    · rcases List.mem_append.1 hp with hp | hp
      · exact hL.from' p hp
      · obtain rfl := List.mem_singleton.1 hp; exact hg
    · show x.sum ∈ (o.trees ++ [(w.sum, treeOf h w)]).map (·.1)
      rw [List.map_append, List.mem_append]
      rcases List.mem_append.1 hxm with hxm | hxm
      · exact .inl (hL.has x hxm)
      · obtain rfl := List.mem_singleton.1 hxm; exact .inr (by simp)
theorem loadGo_ok (h : HeldB) (hk : HeldOk h) : ∀ (l P : List WantB) (i : Nat) (o : HeldB), Loaded h o P → P.length + l.length ≤ 40 → (∀ w ∈ l, (ixOf w.sum h.sums).isSome = true) → (loadGo i o (l.map (treeOf h))).1 = ⟨0, none⟩ ∧ Loaded h (loadGo i o (l.map (treeOf h))).2 (P ++ l)
  | [], P, i, o, hL, _, _ => by rw [List.append_nil]; exact ⟨rfl, hL⟩
  | w :: l, P, i, o, hL, hn, hw => by
    rw [List.length_cons] at hn
    obtain ⟨s1, s2⟩ := hL.step hk (by omega) (hw w (List.mem_cons_self ..))
    rw [List.map_cons]
    unfold loadGo
    rw [if_neg (by rw [s1]; simp)]
    have e : P ++ w :: l = (P ++ [w]) ++ l := by simp
    rw [e]
    exact loadGo_ok h hk l (P ++ [w]) (i + 1) _ s2 (by rw [List.length_append]; simp; omega) fun x hx => hw x (List.mem_cons_of_mem _ hx)
theorem Loaded.get {h o : HeldB} {P : List WantB} (hL : Loaded h o P) {w : WantB} (hw : w ∈ P) (hs : (ixOf w.sum h.sums).isSome = true) : getL o.trees w.sum = some (treeOf h w) := by
  have hm := hL.has w hw
  have := treeOf_some (h := o) (w := w) (ixOf_isSome.2 hm)
  rw [this]
  have h2 := hL.from' _ (getL_some this)
  rw [treeOf_some hs] at h2
  exact h2.symm
/-- The law. -/
theorem loads_law {h : HeldB} {l : List WantB} {all : List FileB} (hk : HeldOk h) (hB : Bundled h l all) (_ : (packL all).length ≤ 20000) :
    (loadLk (newH 40) l (packL all)).1 = ⟨0, none⟩ ∧ Loaded h (loadLk (newH 40) l (packL all)).2 l ∧ bundleLk (loadLk (newH 40) l (packL all)).2 l = (⟨0, none⟩, packL all) := by
  have hback := read_pack ((treeOk_iff all).2 hB.made.ok)
  have hsplit : splitLk l (packL all) = (⟨0, none⟩, l.map (treeOf h)) := by
    have hs := splitGo_ok all h hk l 0 fun w hw => ⟨hB.made.under w hw, hB.held w hw⟩
    unfold splitLk
    rw [if_neg (by rw [hB.lock.er]; simp), if_neg (by rw [hback.1]; simp), hback.2, hs, if_neg (by simp)]
  have h0 : Loaded h (newH 40) [] := ⟨newH_ok 40, rfl, Nat.le_refl _, (fun p hp => by cases hp), (fun w hw => by cases hw)⟩
  have hl := loadGo_ok h hk l [] 0 (newH 40) h0 (by have := hB.lock.few; simp; omega) hB.held
  have e : loadLk (newH 40) l (packL all) = loadGo 0 (newH 40) (l.map (treeOf h)) := by
    unfold loadLk
    rw [hsplit, if_neg (by simp)]
  rw [e]
  rw [List.nil_append] at hl
  refine ⟨hl.1, hl.2, ?_⟩
  generalize (loadGo 0 (newH 40) (l.map (treeOf h))).2 = o at hl
  have hsame : ∀ (l' : List WantB) (a : List FileB), (∀ w ∈ l', w ∈ l) → graftsGo o a l' = graftsGo h a l' := by
    intro l'
    induction l' with
    | nil => intro a _; rfl
    | cons w l' ih =>
      intro a hs
      have hw := hs w (List.mem_cons_self ..)
      unfold graftsGo
      rw [hl.2.get hw (hB.held w hw), treeOf_some (hB.held w hw), ih _ fun x hx => hs x (List.mem_cons_of_mem _ hx)]
  unfold bundleLk
  rw [if_neg (by rw [hB.lock.er]; simp), (miss_none o l 0).2 fun w hw => ixOf_isSome.2 (hl.2.has w hw)]
  simp only
  rw [hsame l [] fun w hw => hw, hB.eq, if_neg (by simp)]
end Go.Proofs.YtgchgdkpipanjaaGreatDoor

namespace Go.Proofs.YtgchgdkpipanjaaGreatDoor
open Go

theorem has_get {h : HeldB} {n : Int} : (ixOf n h.sums).isSome = (getL h.trees n).isSome := by
  rw [Bool.eq_iff_iff]
  constructor
  · intro hs
    have := treeOf_some (h := h) (w := ⟨⟨#[]⟩, ⟨#[]⟩, ⟨#[]⟩, 0, n⟩) hs
    rw [this]; rfl
  · intro hs
    obtain ⟨t, ht⟩ := Option.isSome_iff_exists.1 hs
    exact ixOf_isSome.2 (List.mem_map.2 ⟨_, getL_some ht, rfl⟩)
theorem treeOf_get {h : HeldB} {w : WantB} {t : List FileB} (hg : getL h.trees w.sum = some t) : treeOf h w = t := by unfold treeOf; rw [hg]; rfl
theorem missGo_step {h : HeldB} {l : List WantB} {k : Nat} (hk : k < l.length) : missGo h k (l.drop k) = if (getL h.trees l[k].sum).isSome = true then missGo h (k + 1) (l.drop (k + 1)) else some k := by
  rw [List.drop_eq_getElem_cons hk]
  show (if (ixOf l[k].sum h.sums).isSome = true then missGo h (k + 1) (l.drop (k + 1)) else some k) = _
  rw [has_get]
theorem miss_at {h : HeldB} {l : List WantB} {k : Nat} (hk : k < l.length) (hF : missGo h 0 l = missGo h k (l.drop k)) (hn : getL h.trees l[k].sum = none) : missGo h 0 l = some k := by rw [hF, missGo_step hk, hn]; rfl
theorem miss_next {h : HeldB} {l : List WantB} {k : Nat} {t : List FileB} (hk : k < l.length) (hF : missGo h 0 l = missGo h k (l.drop k)) (hs : getL h.trees l[k].sum = some t) : missGo h 0 l = missGo h (k + 1) (l.drop (k + 1)) := by rw [hF, missGo_step hk, hs]; rfl
theorem miss_end {h : HeldB} {l : List WantB} (hF : missGo h 0 l = missGo h l.length (l.drop l.length)) : missGo h 0 l = none := by rw [hF, List.drop_length]; rfl
theorem bundle_lock {h : HeldB} {l : List WantB} (h1 : (lockEr l).code ≠ 0) : bundleLk h l = (lockEr l, []) := by unfold bundleLk; rw [if_pos h1]
theorem bundle_miss {h : HeldB} {l : List WantB} {k : Nat} (h1 : (lockEr l).code = 0) (hm : missGo h 0 l = some k) : bundleLk h l = (⟨6, some (k : Int)⟩, []) := by
  unfold bundleLk; rw [if_neg (by rw [h1]; simp), hm]
theorem bundle_graft {h : HeldB} {l : List WantB} (h1 : (lockEr l).code = 0) (hm : missGo h 0 l = none) : bundleLk h l = if (graftsGo h [] l).1 ≠ 0 then (⟨(graftsGo h [] l).1, none⟩, []) else (⟨0, none⟩, packL (graftsGo h [] l).2) := by
  unfold bundleLk; rw [if_neg (by rw [h1]; simp), hm]
theorem grafts_step {h : HeldB} {l : List WantB} {k : Nat} {all : List FileB} (hk : k < l.length) : graftsGo h all (l.drop k) = if (graftT all l[k].name (treeOf h l[k])).1.code ≠ 0 then ((graftT all l[k].name (treeOf h l[k])).1.code, []) else graftsGo h (graftT all l[k].name (treeOf h l[k])).2 (l.drop (k + 1)) := by
  rw [List.drop_eq_getElem_cons hk]
  rfl
theorem grafts_bad {h : HeldB} {l : List WantB} {k c : Nat} {all : List FileB} (hk : k < l.length) (hF : graftsGo h [] l = graftsGo h all (l.drop k)) (hc : (graftT all l[k].name (treeOf h l[k])).1.code = c + 1) : graftsGo h [] l = (c + 1, []) := by
  rw [hF, grafts_step hk, if_pos (by omega), hc]
theorem grafts_next {h : HeldB} {l : List WantB} {k : Nat} {all : List FileB} (hk : k < l.length) (hF : graftsGo h [] l = graftsGo h all (l.drop k)) (hc : (graftT all l[k].name (treeOf h l[k])).1.code = 0) : graftsGo h [] l = graftsGo h (graftT all l[k].name (treeOf h l[k])).2 (l.drop (k + 1)) := by
  rw [hF, grafts_step hk, if_neg (by omega)]
theorem grafts_end {h : HeldB} {l : List WantB} {all : List FileB} (hF : graftsGo h [] l = graftsGo h all (l.drop l.length)) : graftsGo h [] l = (0, all) := by rw [hF, List.drop_length]; rfl
theorem bundle_bad2 {h : HeldB} {l : List WantB} {c : Nat} (h1 : (lockEr l).code = 0) (hm : missGo h 0 l = none) (hg : graftsGo h [] l = (c + 1, [])) : bundleLk h l = (⟨c + 1, none⟩, []) := by
  rw [bundle_graft h1 hm, hg]; rfl
theorem bundle_good {h : HeldB} {l : List WantB} {all : List FileB} (h1 : (lockEr l).code = 0) (hm : missGo h 0 l = none) (hg : graftsGo h [] l = (0, all)) : bundleLk h l = (⟨0, none⟩, packL all) := by
  rw [bundle_graft h1 hm, hg]; rfl

/-- What is split so far, and what is to come. -/
def SStep (all : List FileB) (l : List WantB) (k : Nat) (acc : List (List FileB)) : Prop :=
  (splitGo all 0 l).1 = (splitGo all k (l.drop k)).1 ∧ (splitGo all 0 l).2 = acc ++ (splitGo all k (l.drop k)).2
theorem SStep.zero (all : List FileB) (l : List WantB) : SStep all l 0 [] := ⟨rfl, rfl⟩
theorem splitGo_step {all : List FileB} {l : List WantB} {k : Nat} (hk : k < l.length) : splitGo all k (l.drop k) =
    if (treeEr (underL all l[k].name)).code ≠ 0 then (⟨(treeEr (underL all l[k].name)).code, some (k : Int)⟩, [])
    else if treeSum (underL all l[k].name) ≠ l[k].sum then (⟨12, some (k : Int)⟩, [])
    else ((splitGo all (k + 1) (l.drop (k + 1))).1, underL all l[k].name :: (splitGo all (k + 1) (l.drop (k + 1))).2) := by
  rw [List.drop_eq_getElem_cons hk]
  rfl
theorem split_lock {l : List WantB} {s : List UInt8} (h1 : (lockEr l).code ≠ 0) : splitLk l s = (lockEr l, []) := by unfold splitLk; rw [if_pos h1]
theorem split_read {l : List WantB} {s : List UInt8} (h1 : (lockEr l).code = 0) (h2 : (readEr s).code ≠ 0) : splitLk l s = (readEr s, []) := by unfold splitLk; rw [if_neg (by rw [h1]; simp), if_pos h2]
theorem split_from {l : List WantB} {s : List UInt8} (h1 : (lockEr l).code = 0) (h2 : (readEr s).code = 0) : splitLk l s = if (splitGo (readT s) 0 l).1.code ≠ 0 then ((splitGo (readT s) 0 l).1, []) else (⟨0, none⟩, (splitGo (readT s) 0 l).2) := by
  unfold splitLk; rw [if_neg (by rw [h1]; simp), if_neg (by rw [h2]; simp)]
theorem SStep.tree {all : List FileB} {l : List WantB} {k c : Nat} {acc : List (List FileB)} {s : List UInt8} (h : SStep all l k acc) (hk : k < l.length) (hF : splitLk l s = if (splitGo all 0 l).1.code ≠ 0 then ((splitGo all 0 l).1, []) else (⟨0, none⟩, (splitGo all 0 l).2))
    (hc : (treeEr (underL all l[k].name)).code = c + 1) : splitLk l s = (⟨c + 1, some (k : Int)⟩, []) := by
  have e : splitGo all k (l.drop k) = (⟨c + 1, some (k : Int)⟩, []) := by rw [splitGo_step hk, if_pos (by omega), hc]
  rw [hF, if_pos (by rw [h.1, e]; simp), h.1, e]
theorem SStep.sum {all : List FileB} {l : List WantB} {k : Nat} {acc : List (List FileB)} {s : List UInt8} (h : SStep all l k acc) (hk : k < l.length) (hF : splitLk l s = if (splitGo all 0 l).1.code ≠ 0 then ((splitGo all 0 l).1, []) else (⟨0, none⟩, (splitGo all 0 l).2))
    (hc : (treeEr (underL all l[k].name)).code = 0) (hs : treeSum (underL all l[k].name) ≠ l[k].sum) : splitLk l s = (⟨12, some (k : Int)⟩, []) := by
  have e : splitGo all k (l.drop k) = (⟨12, some (k : Int)⟩, []) := by rw [splitGo_step hk, if_neg (by omega), if_pos hs]
  rw [hF, if_pos (by rw [h.1, e]; simp), h.1, e]
theorem SStep.next {all : List FileB} {l : List WantB} {k : Nat} {acc : List (List FileB)} (h : SStep all l k acc) (hk : k < l.length) (hc : (treeEr (underL all l[k].name)).code = 0) (hs : treeSum (underL all l[k].name) = l[k].sum) : SStep all l (k + 1) (acc ++ [underL all l[k].name]) := by
  unfold SStep at h ⊢
  rw [splitGo_step hk, if_neg (by omega), if_neg (by rw [hs]; simp)] at h
  refine ⟨h.1, ?_⟩
  rw [h.2]; simp
theorem SStep.done {all : List FileB} {l : List WantB} {acc : List (List FileB)} {s : List UInt8} (h : SStep all l l.length acc) (hF : splitLk l s = if (splitGo all 0 l).1.code ≠ 0 then ((splitGo all 0 l).1, []) else (⟨0, none⟩, (splitGo all 0 l).2)) : splitLk l s = (⟨0, none⟩, acc) := by
  unfold SStep at h
  rw [List.drop_length] at h
  have e : splitGo all l.length [] = (⟨0, none⟩, []) := rfl
  rw [e] at h
  rw [hF, if_neg (by rw [h.1]; simp), h.2, List.append_nil]
theorem splitGo_each (all : List FileB) : ∀ (l : List WantB) (i : Nat), ∀ t ∈ (splitGo all i l).2, (treeEr t).code = 0
  | [], i => fun t ht => by cases ht
  | w :: l, i => by
    unfold splitGo
    split
    · intro t ht; cases ht
    · rename_i h1
      split
      · intro t ht; cases ht
      · intro t ht
        rcases List.mem_cons.1 ht with rfl | ht
        · simpa using h1
        · exact splitGo_each all l (i + 1) t ht
theorem splitLk_each (l : List WantB) (s : List UInt8) : ∀ t ∈ (splitLk l s).2, (treeEr t).code = 0 := by
  unfold splitLk
  split
  · intro t ht; cases ht
  · split
    · intro t ht; cases ht
    · split
      · intro t ht; cases ht
      · exact splitGo_each _ _ _
theorem splitGo_len (all : List FileB) : ∀ (l : List WantB) (i : Nat), (splitGo all i l).2.length ≤ l.length
  | [], i => Nat.le_refl _
  | w :: l, i => by
    unfold splitGo
    split
    · exact Nat.zero_le _
    · split
      · exact Nat.zero_le _
      · have := splitGo_len all l (i + 1)
        simp only [List.length_cons]; omega
theorem splitLk_len (l : List WantB) (s : List UInt8) : (splitLk l s).2.length ≤ l.length := by
  unfold splitLk
  split
  · exact Nat.zero_le _
  · split
    · exact Nat.zero_le _
    · split
      · exact Nat.zero_le _
      · exact splitGo_len _ _ _
theorem loadGo_step {h : HeldB} {ts : List (List FileB)} {k : Nat} (hk : k < ts.length) : loadGo k h (ts.drop k) = if (putH h ts[k]).1.code ≠ 0 then (⟨(putH h ts[k]).1.code, some (k : Int)⟩, (putH h ts[k]).2.2) else loadGo (k + 1) (putH h ts[k]).2.2 (ts.drop (k + 1)) := by
  rw [List.drop_eq_getElem_cons hk]
  rfl
theorem putH_le {h : HeldB} {l : List FileB} (hl : (treeEr l).code = 0) : (putH h l).1 = ⟨0, none⟩ ∨ (putH h l).1 = ⟨8, none⟩ := by
  unfold putH
  rw [if_neg (by rw [hl]; simp)]
  split
  · exact .inr rfl
  · split <;> exact .inl rfl
/-- Set, and drop, leave a right lock. -/
theorem setLk_right {l : List WantB} {w : WantB} (hl : LockOk l) (h : (setLk l w).1.code = 0) : LockOk (setLk l w).2 := by
  have hw : wantE w = 0 := by
    unfold setLk at h
    split at h
    · rename_i h1; exact absurd h h1
    · split at h
      · rename_i h1; exact absurd h h1
      · rename_i h1; simpa using h1
  have hr : (∃ x ∈ l, x.name = w.name) ∨ l.length < 20 := by
    by_cases hf : (findW w.name l).isSome = true
    · exact .inl (findW_isSome.1 hf)
    · refine .inr ?_
      unfold setLk at h
      rw [if_neg (by rw [hl.er]; simp), if_neg (by rw [hw]; simp), if_neg hf] at h
      split at h
      · cases h
      · omega
  obtain ⟨r, e, ok, _⟩ := setLk_ok hl hw hr
  rw [e]; exact ok
theorem dropLk_right {l : List WantB} {n : ByteArray} (hl : LockOk l) (h : (dropLk l n).1.code = 0) : LockOk (dropLk l n).2 := by
  unfold dropLk at h ⊢
  rw [if_neg (by rw [hl.er]; simp)] at h ⊢
  cases hf : findW n l with
  | none => rw [hf] at h; cases h
  | some k => exact hl.sub (List.eraseIdx_sublist ..)
theorem lockOk_nil : LockOk [] := ⟨Nat.zero_le _, (fun w hw => by cases hw), List.Pairwise.nil⟩
end Go.Proofs.YtgchgdkpipanjaaGreatDoor
