/- What is bundled is loaded elsewhere: in plain Lean. Steps of a bundle: what is held, what is grafted, split and loaded: in plain Lean. -/
import Derived.Test.YtcjjbpoaojjojaaGreatDoorJWantRowsEtc
import Derived.Test.YtcjjbpoaojjojaaGreatDoorJWantPlains
import Derived.Test.YtcjjbpoaojjojaaGreatDoorJTreePlains
import Derived.Test.YtcjjbpoaojjojaaGreatDoorJFetches
namespace Go.Proofs.YtcjjbpoaojjojaaGreatDoor
open Go

/-- A part is a path. -/
theorem part_path {l : List UInt8} (h : partB l = true) : partsE l = 0 ∧ (47 : UInt8) ∉ l := by
  have hf := part_free h
  refine ⟨?_, hf⟩
  unfold partsE
  rw [cutL_no hf]
  simp [h]
theorem part_notIn {a b : List UInt8} (h : partB a = true) (hb : b ≠ []) : inB a b = false := by
  unfold inB
  have h1 : Lib.hasPrefix a (b ++ [47]) = false := by
    cases hp : Lib.hasPrefix a (b ++ [47]) with
    | false => rfl
    | true =>
      have e := hasPrefix_app hp
      exact absurd (by rw [e]; simp) (part_free h)
  rw [h1, decide_eq_false hb]
  simp
theorem Grafted.other {l m z : List FileB} {b : ByteArray} (h : Grafted l b m z) (a : ByteArray) (hn : ∀ f ∈ m, inB (bl b ++ 47 :: bl f.path) (bl a) = false) : underL z a = underL l a := by
  have hm : (m.map (joinF b)).filter (fun g => inB (bl g.path) (bl a)) = [] := List.filter_eq_nil_iff.2 fun g hg => by
    obtain ⟨f, hf, rfl⟩ := List.mem_map.1 hg
    rw [(h.path hf).1, hn f hf]; simp
  have hp := h.perm.filter (fun g => inB (bl g.path) (bl a))
  rw [List.filter_append, hm, List.append_nil] at hp
  unfold underL
  rw [strict_unique (h.ok.strict.sublist List.filter_sublist) (h.hl.strict.sublist List.filter_sublist) hp]
theorem held_ok {h : HeldB} (k : HeldOk h) {n : Int} {l : List FileB} (hl : getL h.trees n = some l) : (treeEr l).code = 0 ∧ n = treeSum l := k.right _ (getL_some hl)
def treeOf (h : HeldB) (w : WantB) : List FileB := (getL h.trees w.sum).getD []
/-- What the grafts so far have made. -/
structure MadeOf (h : HeldB) (P : List WantB) (all : List FileB) : Prop where
  ok : TreeOk all
  under : ∀ w ∈ P, underL all w.name = treeOf h w
  mem : ∀ g ∈ all, ∃ w ∈ P, ∃ r, bl g.path = bl w.name ++ 47 :: r
theorem names_apart {x y : WantB} (hx : partB (bl x.name) = true) (hy : partB (bl y.name) = true) (hne : x.name ≠ y.name) (r : List UInt8) : inB (bl x.name ++ 47 :: r) (bl y.name) = false :=
  not_in (part_path hy).1 (part_path hx).1 (fun e => hne (bl_inj e.symm)) (part_notIn hy (part_ne hx).1) (part_notIn hx (part_ne hy).1)
theorem MadeOf.step {h : HeldB} {P : List WantB} {all z : List FileB} {w : WantB} (hM : MadeOf h P all) (hP : ∀ x ∈ P, partB (bl x.name) = true ∧ x.name ≠ w.name) (hw : partB (bl w.name) = true) (hg : Grafted all w.name (treeOf h w) z) : MadeOf h (P ++ [w]) z := by
  have h0 : (underL all w.name).length = 0 := by
    unfold underL
    rw [List.length_map, List.filter_eq_nil_iff.2]
    · rfl
    · intro g hgm
      obtain ⟨x, hx, r, e⟩ := hM.mem g hgm
      rw [e, names_apart (hP x hx).1 hw (hP x hx).2]; simp
  refine ⟨hg.ok, fun x hx => ?_, fun g hgm => ?_⟩
  · rcases List.mem_append.1 hx with hx | hx
    · rw [hg.other x.name fun f hf => names_apart hw (hP x hx).1 (hP x hx).2.symm _]
      exact hM.under x hx
    · obtain rfl := List.mem_singleton.1 hx
      exact hg.underEq h0
  · rcases List.mem_append.1 (hg.perm.subset hgm) with hgm | hgm
    · obtain ⟨x, hx, r, e⟩ := hM.mem g hgm
      exact ⟨x, List.mem_append_left _ hx, r, e⟩
    · obtain ⟨f, hf, rfl⟩ := List.mem_map.1 hgm
      exact ⟨w, List.mem_append_right _ (List.mem_singleton.2 rfl), _, (hg.path hf).1⟩
theorem treeOf_some {h : HeldB} {w : WantB} (hw : (ixOf w.sum h.sums).isSome = true) : getL h.trees w.sum = some (treeOf h w) := by
  unfold treeOf
  have hm := ixOf_isSome.1 hw
  cases hg : getL h.trees w.sum with
  | some t => rfl
  | none =>
    exfalso
    have key : ∀ (L : List (Int × List FileB)), getL L w.sum = none → w.sum ∉ L.map (·.1) := by
      intro L
      induction L with
      | nil => intro _ h; cases h
      | cons p L ih =>
        intro hL hm
        unfold getL at hL
        split at hL
        · cases hL
        · rename_i hne
          rcases List.mem_cons.1 hm with e | hm
          · exact hne e.symm
          · exact ih hL hm
    exact key _ hg hm
/-- What has been loaded so far. -/
structure Loaded (h : HeldB) (o : HeldB) (P : List WantB) : Prop where
  ok : HeldOk o
  most : o.most = 40
  len : o.trees.length ≤ P.length
  from' : ∀ p ∈ o.trees, getL h.trees p.1 = some p.2
  has : ∀ w ∈ P, w.sum ∈ o.sums
theorem Loaded.step {h o : HeldB} {P : List WantB} {w : WantB} (hk : HeldOk h) (hL : Loaded h o P) (hP : P.length < 40) (hw : (ixOf w.sum h.sums).isSome = true) :
    (putH o (treeOf h w)).1.code = 0 ∧ Loaded h (putH o (treeOf h w)).2.2 (P ++ [w]) := by
  have hg := treeOf_some hw
  have hr := held_ok hk hg
  have hok := putH_ok (treeOf h w) hL.ok
  have hlen := hL.len
  unfold putH at hok ⊢
  rw [if_neg (by rw [hr.1]; simp), if_neg (by rw [hL.most]; simp), ← hr.2] at hok ⊢
  by_cases hx : (ixOf w.sum o.sums).isSome = true
  · rw [if_pos hx]
    refine ⟨rfl, hL.ok, hL.most, by rw [List.length_append]; exact Nat.le_trans hlen (Nat.le_add_right _ _), hL.from', fun x hxm => ?_⟩
    rcases List.mem_append.1 hxm with hxm | hxm
    · exact hL.has x hxm
    · obtain rfl := List.mem_singleton.1 hxm; exact ixOf_isSome.1 hx
  · rw [if_neg hx] at hok ⊢
    rw [if_neg (by rw [hL.most]; omega), List.drop_zero] at hok ⊢
    refine ⟨rfl, hok, hL.most, by simp; omega, fun p hp => ?_, fun x hxm => ?_⟩
    · rcases List.mem_append.1 hp with hp | hp
      · exact hL.from' p hp
      · obtain rfl := List.mem_singleton.1 hp; exact hg
    · show x.sum ∈ (o.trees ++ [(w.sum, treeOf h w)]).map (·.1)
      rw [List.map_append, List.mem_append]
      rcases List.mem_append.1 hxm with hxm | hxm
      · exact .inl (hL.has x hxm)
      · obtain rfl := List.mem_singleton.1 hxm; exact .inr (by simp)
end Go.Proofs.YtcjjbpoaojjojaaGreatDoor

namespace Go.Proofs.YtcjjbpoaojjojaaGreatDoor
open Go

/-- What is split so far, and what is to come. -/
def SStep (all : List FileB) (l : List WantB) (k : Nat) (acc : List (List FileB)) : Prop :=
  (splitGo all 0 l).1 = (splitGo all k (l.drop k)).1 ∧ (splitGo all 0 l).2 = acc ++ (splitGo all k (l.drop k)).2
theorem SStep.zero (all : List FileB) (l : List WantB) : SStep all l 0 [] := ⟨rfl, rfl⟩
theorem splitGo_step {all : List FileB} {l : List WantB} {k : Nat} (hk : k < l.length) : splitGo all k (l.drop k) =
    if (treeEr (underL all l[k].name)).code ≠ 0 then (⟨(treeEr (underL all l[k].name)).code, some (k : Int)⟩, [])
    else if treeSum (underL all l[k].name) ≠ l[k].sum then (⟨12, some (k : Int)⟩, [])
    else ((splitGo all (k + 1) (l.drop (k + 1))).1, underL all l[k].name :: (splitGo all (k + 1) (l.drop (k + 1))).2) := by
  rw [List.drop_eq_getElem_cons hk]
  rfl
theorem SStep.tree {all : List FileB} {l : List WantB} {k c : Nat} {acc : List (List FileB)} {s : List UInt8} (h : SStep all l k acc) (hk : k < l.length) (hF : splitLk l s = if (splitGo all 0 l).1.code ≠ 0 then ((splitGo all 0 l).1, []) else (⟨0, none⟩, (splitGo all 0 l).2))
    (hc : (treeEr (underL all l[k].name)).code = c + 1) : splitLk l s = (⟨c + 1, some (k : Int)⟩, []) := by
  have e : splitGo all k (l.drop k) = (⟨c + 1, some (k : Int)⟩, []) := by rw [splitGo_step hk, if_pos (by omega), hc]
  rw [hF, if_pos (by rw [h.1, e]; simp), h.1, e]
theorem SStep.sum {all : List FileB} {l : List WantB} {k : Nat} {acc : List (List FileB)} {s : List UInt8} (h : SStep all l k acc) (hk : k < l.length) (hF : splitLk l s = if (splitGo all 0 l).1.code ≠ 0 then ((splitGo all 0 l).1, []) else (⟨0, none⟩, (splitGo all 0 l).2))
    (hc : (treeEr (underL all l[k].name)).code = 0) (hs : treeSum (underL all l[k].name) ≠ l[k].sum) : splitLk l s = (⟨12, some (k : Int)⟩, []) := by
  have e : splitGo all k (l.drop k) = (⟨12, some (k : Int)⟩, []) := by rw [splitGo_step hk, if_neg (by omega), if_pos hs]
  rw [hF, if_pos (by rw [h.1, e]; simp), h.1, e]
theorem SStep.next {all : List FileB} {l : List WantB} {k : Nat} {acc : List (List FileB)} (h : SStep all l k acc) (hk : k < l.length) (hc : (treeEr (underL all l[k].name)).code = 0) (hs : treeSum (underL all l[k].name) = l[k].sum) : SStep all l (k + 1) (acc ++ [underL all l[k].name]) := by
  unfold SStep at h ⊢
  rw [splitGo_step hk, if_neg (by omega), if_neg (by rw [hs]; simp)] at h
  refine ⟨h.1, ?_⟩
  rw [h.2]; simp
theorem SStep.done {all : List FileB} {l : List WantB} {acc : List (List FileB)} {s : List UInt8} (h : SStep all l l.length acc) (hF : splitLk l s = if (splitGo all 0 l).1.code ≠ 0 then ((splitGo all 0 l).1, []) else (⟨0, none⟩, (splitGo all 0 l).2)) : splitLk l s = (⟨0, none⟩, acc) := by
  unfold SStep at h
  rw [List.drop_length] at h
  have e : splitGo all l.length [] = (⟨0, none⟩, []) := rfl
  rw [e] at h
  rw [hF, if_neg (by rw [h.1]; simp), h.2, List.append_nil]
/-- Set, and drop, leave a right lock. -/
theorem setLk_right {l : List WantB} {w : WantB} (hl : LockOk l) (h : (setLk l w).1.code = 0) : LockOk (setLk l w).2 := by
  have hw : wantE w = 0 := by
    unfold setLk at h
    split at h
    · rename_i h1; exact absurd h h1
    · split at h
      · rename_i h1; exact absurd h h1
      · rename_i h1; simpa using h1
  have hr : (∃ x ∈ l, x.name = w.name) ∨ l.length < 20 := by
    by_cases hf : (findW w.name l).isSome = true
    · exact .inl (findW_isSome.1 hf)
    · refine .inr ?_
      unfold setLk at h
      rw [if_neg (by rw [hl.er]; simp), if_neg (by rw [hw]; simp), if_neg hf] at h
      split at h
      · cases h
      · omega
  obtain ⟨r, e, ok, _⟩ := setLk_ok hl hw hr
  rw [e]; exact ok
theorem dropLk_right {l : List WantB} {n : ByteArray} (hl : LockOk l) (h : (dropLk l n).1.code = 0) : LockOk (dropLk l n).2 := by
  unfold dropLk at h ⊢
  rw [if_neg (by rw [hl.er]; simp)] at h ⊢
  cases hf : findW n l with
  | none => rw [hf] at h; cases h
  | some k => exact hl.sub (List.eraseIdx_sublist ..)
theorem lockOk_nil : LockOk [] := ⟨Nat.zero_le _, (fun w hw => by cases hw), List.Pairwise.nil⟩
end Go.Proofs.YtcjjbpoaojjojaaGreatDoor
