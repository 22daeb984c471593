/- Trees, in plain Lean: sorted, put, dropped, under, grafted, stripped. What a right tree is, in plain Lean; parts of right trees. Grafts, puts, drops, strips of right trees: the laws, in plain Lean. -/
import Derived.Test.YtgchgdkpipanjaaGreatDoorKTreed
import Derived.Test.YtgchgdkpipanjaaGreatDoorKRanged
import Derived.Test.YtgchgdkpipanjaaGreatDoorKPlainly
import Derived.Lib.Bytealg
import Derived.Test.YtgchgdkpipanjaaGreatDoorKReadPlainly
namespace Go.Proofs.YtgchgdkpipanjaaGreatDoor
open Go

theorem less_eq : ∀ (x y : List UInt8), Op.bytesLess x y = decide (x < y)
  | [], [] => by simp [Op.bytesLess]
  | _ :: _, [] => by simp [Op.bytesLess]
  | [], _ :: _ => by simp [Op.bytesLess]
  | a :: x, b :: y => by
    rw [Op.bytesLess, less_eq x y]
    simp only [List.cons_lt_cons_iff]
    by_cases h1 : a < b <;> by_cases h2 : a = b <;> by_cases h3 : x < y <;> simp [h1, h2, h3]
theorem cmp_lt : ∀ (x y : List UInt8), (Lib.compareBytes x y < 0 ↔ x < y) ∧ (Lib.compareBytes x y = 0 ↔ x = y)
  | [], [] => by simp [Lib.compareBytes]
  | _ :: _, [] => by simp [Lib.compareBytes]
  | [], _ :: _ => by simp [Lib.compareBytes]
  | a :: x, b :: y => by
    obtain ⟨i1, i2⟩ := cmp_lt x y
    unfold Lib.compareBytes
    rw [List.cons_lt_cons_iff, List.cons_eq_cons]
    by_cases h1 : a < b
    · rw [if_pos h1]
      have : a ≠ b := fun e => by subst e; exact absurd h1 (UInt8.lt_irrefl _)
      simp [h1, this]
    · rw [if_neg h1]
      by_cases h2 : b < a
      · rw [if_pos h2]
        have : a ≠ b := fun e => by subst e; exact absurd h2 (UInt8.lt_irrefl _)
        simp [h1, this]
      · rw [if_neg h2]
        have : a = b := UInt8.le_antisymm (UInt8.not_lt.1 h2) (UInt8.not_lt.1 h1)
        subst this
        simp [i1, i2]
/-- Paths in order. -/
def pLt (f g : FileB) : Prop := bl f.path < bl g.path
instance (f g : FileB) : Decidable (pLt f g) := inferInstanceAs (Decidable (bl f.path < bl g.path))
theorem pLt.trans {f g h : FileB} (a : pLt f g) (b : pLt g h) : pLt f h := List.lt_trans a b
theorem pLt.tri {f g : FileB} (a : ¬ pLt f g) (b : ¬ pLt g f) : bl f.path = bl g.path := List.le_antisymm (List.not_lt.1 b) (List.not_lt.1 a)
theorem takeWhile_all {α : Type} {p : α → Bool} : ∀ {l : List α} {x : α}, x ∈ l.takeWhile p → p x = true
  | [], _, h => by cases h
  | y :: l, x, h => by
    rw [List.takeWhile_cons] at h
    split at h
    · rename_i hy
      rcases List.mem_cons.1 h with rfl | h
      · exact hy
      · exact takeWhile_all h
    · cases h
/-- Where a file goes, as one comes from behind. -/
def backIx (x : FileB) (out : List FileB) : Nat := out.length - (out.reverse.takeWhile (fun y => decide (pLt x y))).length
def insB (out : List FileB) (x : FileB) : List FileB := out.take (backIx x out) ++ [x] ++ out.drop (backIx x out)
def isort (l : List FileB) : List FileB := l.foldl insB []
def Strict (l : List FileB) : Prop := l.Pairwise pLt
def dropL (l : List FileB) (p : ByteArray) : List FileB := l.filter fun g => !decide (g.path = p)
def cutP (d : ByteArray) (f : FileB) : FileB := if d = ⟨#[]⟩ then f else { f with path := ⟨((bl f.path).drop (d.size + 1)).toArray⟩ }
def joinF (d : ByteArray) (f : FileB) : FileB := { f with path := ⟨(cleanT (joinS (bl d) (bl f.path))).toArray⟩ }
end Go.Proofs.YtgchgdkpipanjaaGreatDoor

namespace Go.Proofs.YtgchgdkpipanjaaGreatDoor
open Go

def NoClash (l : List FileB) : Prop := l.Pairwise fun g f => inB (bl f.path) (bl g.path) = false
structure TreeOk (l : List FileB) : Prop where
  few : l.length ≤ 30
  all : allText l ≤ 12000
  each : ∀ f ∈ l, partsE (bl f.path) = 0 ∧ f.text.size ≤ 4000
  strict : Strict l
  apart : NoClash l
theorem leqB_false (a b : List UInt8) : leqB a b = false ↔ b < a := by
  unfold leqB
  rw [less_eq, Bool.or_eq_false_iff, decide_eq_false_iff_not, beq_eq_false_iff_ne]
  constructor
  · rintro ⟨h1, h2⟩
    rcases List.le_iff_lt_or_eq.1 (List.not_lt.1 h1) with h | h
    · exact h
    · exact absurd h.symm h2
  · intro h
    exact ⟨List.not_lt.2 (List.le_of_lt h), fun e => by subst e; exact List.lt_irrefl _ h⟩
theorem after_iff {ahead : List FileB} {f : FileB} (h : Strict ahead) : afterB ahead (bl f.path) = false ↔ Strict (ahead ++ [f]) := by
  unfold Strict
  rw [List.pairwise_append]
  cases hl : ahead.getLast? with
  | none =>
    have : ahead = [] := List.getLast?_eq_none_iff.1 hl
    subst this
    simp [afterB]
  | some g =>
    rw [afterB_some hl, leqB_false]
    obtain ⟨ys, rfl⟩ := List.getLast?_eq_some_iff.1 hl
    constructor
    · intro hg
      refine ⟨h, List.pairwise_singleton _ _, fun a ha b hb => ?_⟩
      obtain rfl := List.mem_singleton.1 hb
      rcases List.mem_append.1 ha with ha | ha
      · exact ((List.pairwise_append.1 h).2.2 a ha g (by simp)).trans hg
      · obtain rfl := List.mem_singleton.1 ha; exact hg
    · rintro ⟨_, _, h3⟩
      exact h3 g (by simp) f (by simp)
theorem fileE_iff {ahead : List FileB} {f : FileB} : fileE ahead f = 0 ↔ partsE (bl f.path) = 0 ∧ f.text.size ≤ 4000 ∧ afterB ahead (bl f.path) = false ∧ ahead.any (fun g => inB (bl f.path) (bl g.path)) = false := by
  unfold fileE
  by_cases h1 : partsE (bl f.path) = 0
  · rw [if_neg (by simp [h1])]
    by_cases h2 : 4000 < f.text.size
    · rw [if_pos h2]; constructor
      · intro h; cases h
      · rintro ⟨_, h, _⟩; omega
    · rw [if_neg h2]
      cases h3 : afterB ahead (bl f.path) with
      | true => simp
      | false =>
        cases h4 : ahead.any (fun g => inB (bl f.path) (bl g.path)) with
        | true => simp
        | false => simp [h1]; omega
  · rw [if_pos h1]
    constructor
    · intro h; exact absurd h h1
    · rintro ⟨h, _⟩; exact absurd h h1
theorem filesE_iff : ∀ (l ahead : List FileB) (i : Nat), Strict ahead → NoClash ahead → (filesE ahead i l = none ↔ (∀ f ∈ l, partsE (bl f.path) = 0 ∧ f.text.size ≤ 4000) ∧ Strict (ahead ++ l) ∧ NoClash (ahead ++ l))
  | [], ahead, i, h1, h2 => by simp [filesE, h1, h2]
  | f :: l, ahead, i, h1, h2 => by
    unfold filesE
    by_cases h : fileE ahead f = 0
    · rw [if_pos h]
      obtain ⟨a, b, c, d⟩ := fileE_iff.1 h
      have hs := (after_iff h1).1 c
      have hn : NoClash (ahead ++ [f]) := by
        refine List.pairwise_append.2 ⟨h2, List.pairwise_singleton _ _, fun x hx y hy => ?_⟩
        obtain rfl := List.mem_singleton.1 hy
        have := List.any_eq_false.1 d x hx
        simpa using this
      rw [filesE_iff l (ahead ++ [f]) (i + 1) hs hn, List.append_assoc, List.singleton_append]
      constructor
      · rintro ⟨q1, q2, q3⟩
        refine ⟨fun x hx => ?_, q2, q3⟩
        rcases List.mem_cons.1 hx with rfl | hx
        · exact ⟨a, b⟩
        · exact q1 x hx
      · rintro ⟨q1, q2, q3⟩
        exact ⟨fun x hx => q1 x (List.mem_cons_of_mem _ hx), q2, q3⟩
    · rw [if_neg h]
      constructor
      · intro e; cases e
      · rintro ⟨q1, q2, q3⟩
        refine absurd (fileE_iff.2 ⟨(q1 f (List.mem_cons_self ..)).1, (q1 f (List.mem_cons_self ..)).2, (after_iff h1).2 ?_, ?_⟩) h
        · refine q2.sublist ?_
          exact List.Sublist.append (List.Sublist.refl _) (by simp)
        · rw [List.any_eq_false]
          intro x hx
          have := (List.pairwise_append.1 q3).2.2 x hx f (List.mem_cons_self ..)
          simpa using this
theorem treeOk_iff (l : List FileB) : (treeEr l).code = 0 ↔ TreeOk l := by
  have hi := filesE_iff l [] 0 List.Pairwise.nil List.Pairwise.nil
  rw [List.nil_append] at hi
  constructor
  · intro h
    obtain ⟨_, h1, h2, h3⟩ := treeEr_zero h
    have hf : filesE [] 0 l = none := by
      unfold treeEr at h
      rw [if_neg (by omega)] at h
      cases hf : filesE [] 0 l with
      | none => rfl
      | some p => rw [hf] at h; exact absurd h (filesE_some l [] 0 p hf)
    obtain ⟨a, b, c⟩ := hi.1 hf
    exact ⟨h1, h2, a, b, c⟩
  · rintro ⟨h1, h2, h3, h4, h5⟩
    unfold treeEr
    rw [if_neg (by omega), hi.2 ⟨h3, h4, h5⟩]
    simp only
    rw [if_neg (by omega)]
theorem TreeOk.er {l : List FileB} (h : TreeOk l) : treeEr l = ⟨0, none⟩ := (treeEr_zero ((treeOk_iff l).2 h)).1
theorem Strict.paths {l : List FileB} (h : Strict l) : l.Pairwise fun f g => f.path ≠ g.path := h.imp fun {a b} hab e => by unfold pLt at hab; rw [e] at hab; exact List.lt_irrefl _ hab
end Go.Proofs.YtgchgdkpipanjaaGreatDoor

namespace Go.Proofs.YtgchgdkpipanjaaGreatDoor
open Go

theorem path_clean {s : List UInt8} (h : partsE s = 0) : cleanE s = 0 ∧ cleanT s = s := by
  obtain ⟨h1, h2⟩ := partsE_ok h
  have h3 : s.head? ≠ some 47 := by
    have := head_of_parts h1 [] (cutL_ne 47 s)
    rwa [List.append_nil, cutL_join] at this
  have h4 := cleanW_keep (cutL 47 s) [] h1
  rw [List.nil_append, if_neg (by omega)] at h4
  have h5 : cleanE s = 0 := by unfold cleanE; rw [if_neg h3, h4]
  exact ⟨h5, by unfold cleanT; rw [h5, h4]; simp only [if_true]; exact cutL_join 47 s⟩
theorem parts_ne {s : List UInt8} (h : partsE s = 0) : s ≠ [] := fun e => by subst e; rw [partsE_nil] at h; cases h
theorem join_path {d s : List UInt8} (hd : partsE d = 0) (hs : partsE s = 0) (h : cleanE (joinS d s) = 0) : cleanT (joinS d s) = d ++ 47 :: s ∧ partsE (d ++ 47 :: s) = 0 := by
  obtain ⟨c1, c2⟩ := path_clean hs
  have := (join_in hd c1 (by rw [c2]; exact parts_ne hs)).2 h
  rw [c2] at this
  obtain ⟨_, _, e, p⟩ := this
  exact ⟨e, e ▸ p⟩
theorem mk_bl (s : ByteArray) : (⟨(bl s).toArray⟩ : ByteArray) = s := bl_inj rfl
theorem joinF_path {d : ByteArray} {f : FileB} (hd : partsE (bl d) = 0) (hs : partsE (bl f.path) = 0) (h : cleanE (joinS (bl d) (bl f.path)) = 0) : bl (joinF d f).path = bl d ++ 47 :: bl f.path := by
  show bl ⟨_⟩ = _
  rw [bl_mk, (join_path hd hs h).1]
structure Grafted (l : List FileB) (d : ByteArray) (m t : List FileB) : Prop where
  hl : TreeOk l
  hm : TreeOk m
  hd : partsE (bl d) = 0
  joins : ∀ f ∈ m, cleanE (joinS (bl d) (bl f.path)) = 0
  eq : t = isort (l ++ m.map (joinF d))
  ok : TreeOk t
theorem Grafted.path {l m t : List FileB} {d : ByteArray} (h : Grafted l d m t) {f : FileB} (hf : f ∈ m) : bl (joinF d f).path = bl d ++ 47 :: bl f.path ∧ partsE (bl d ++ 47 :: bl f.path) = 0 :=
  ⟨joinF_path h.hd (h.hm.each f hf).1 (h.joins f hf), (join_path h.hd (h.hm.each f hf).1 (h.joins f hf)).2⟩
theorem d_ne {d : ByteArray} (hd : partsE (bl d) = 0) : d ≠ ⟨#[]⟩ := fun e => parts_ne hd (by rw [e]; rfl)
theorem Grafted.cut {l m t : List FileB} {d : ByteArray} (h : Grafted l d m t) {f : FileB} (hf : f ∈ m) : cutP d (joinF d f) = f := by
  unfold cutP
  rw [if_neg (d_ne h.hd), (h.path hf).1]
  have e : (bl d ++ 47 :: bl f.path).drop (d.size + 1) = bl f.path := by
    rw [← bl_length, ← List.drop_drop, List.drop_left]; rfl
  rw [e, mk_bl]
  rfl
theorem Grafted.strict {l m t : List FileB} {d : ByteArray} (h : Grafted l d m t) : Strict (m.map (joinF d)) := by
  unfold Strict
  rw [List.pairwise_map]
  refine (List.pairwise_iff_forall_sublist.2 fun {a b} hab => ?_)
  have ha := hab.subset (List.mem_cons_self ..)
  have hb := hab.subset (List.mem_cons_of_mem _ (List.mem_cons_self ..))
  have hlt : pLt a b := by
    have := h.hm.strict.sublist hab
    exact (List.pairwise_cons.1 this).1 b (List.mem_cons_self ..)
  unfold pLt at hlt ⊢
  rw [(h.path ha).1, (h.path hb).1]
  have key : ∀ (p x y : List UInt8), x < y → p ++ x < p ++ y := by
    intro p x y hxy
    induction p with
    | nil => exact hxy
    | cons c p ih => exact List.cons_lt_cons_iff.2 (.inr ⟨rfl, ih⟩)
  exact key _ _ _ (List.cons_lt_cons_iff.2 (.inr ⟨rfl, hlt⟩))
/-- What is put. -/
structure PutAt (l : List FileB) (x : FileB) (A C p : List FileB) : Prop where
  eq : p = A ++ x :: C
  hA : ∀ y ∈ A, pLt y x
  hC : ∀ y ∈ C, pLt x y
  less : dropL l x.path = A ++ C
theorem path_ne_of {f g : FileB} (h : pLt f g) : f.path ≠ g.path := fun e => by unfold pLt at h; rw [e] at h; exact List.lt_irrefl _ h
theorem drop_keep {l : List FileB} {p : ByteArray} (h : ∀ y ∈ l, y.path ≠ p) : dropL l p = l := by
  unfold dropL
  rw [List.filter_eq_self]
  intro y hy
  simpa using h y hy
theorem PutAt.only {l A C p : List FileB} {x : FileB} (h : PutAt l x A C p) : ∀ y ∈ p, y.path = x.path → y = x := by
  intro y hy he
  rw [h.eq] at hy
  rcases List.mem_append.1 hy with hy | hy
  · exact absurd he (path_ne_of (h.hA y hy))
  · rcases List.mem_cons.1 hy with rfl | hy
    · rfl
    · exact absurd he.symm (path_ne_of (h.hC y hy))
theorem PutAt.once {l A C p : List FileB} {x : FileB} (h : PutAt l x A C p) : (p.filter fun y => decide (y.path = x.path)) = [x] := by
  rw [h.eq, List.filter_append, List.filter_cons]
  have h1 : A.filter (fun y => decide (y.path = x.path)) = [] := List.filter_eq_nil_iff.2 fun y hy => by simpa using path_ne_of (h.hA y hy)
  have h2 : C.filter (fun y => decide (y.path = x.path)) = [] := List.filter_eq_nil_iff.2 fun y hy => by simpa using (path_ne_of (h.hC y hy)).symm
  rw [h1, h2]; simp
theorem PutAt.dropped {l A C p : List FileB} {x : FileB} (h : PutAt l x A C p) : dropL p x.path = A ++ C ∧ p.length = (A ++ C).length + 1 := by
  refine ⟨?_, by rw [h.eq]; simp; omega⟩
  rw [h.eq]
  unfold dropL
  rw [List.filter_append, List.filter_cons]
  have h1 := drop_keep (l := A) (p := x.path) fun y hy => path_ne_of (h.hA y hy)
  have h2 := drop_keep (l := C) (p := x.path) fun y hy => (path_ne_of (h.hC y hy)).symm
  unfold dropL at h1 h2
  rw [h1, h2]
  simp
end Go.Proofs.YtgchgdkpipanjaaGreatDoor
