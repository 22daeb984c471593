/- Plain: paths stripped, cleaned, joined: what the laws ask. No program in sight. A range over a function whose iterator keeps its state in a cell of its own: the law of the statement, from the machine's single steps (the library's law wants an iterator that keeps none). strings.SplitSeq at one byte: its iterator by its contract. path.Clean by its contract. -/
import Derived.Test.YtcjjbpoaojjojaaGreatDoorJPlainly
import Derived.RangeFuncBox
import Derived.RangeFuncNested
import Derived.RangeFuncBound
import Derived.RangeFuncCalls
import Derived.RangeFuncLeaves
import Derived.Shelf.Abstract
import Derived.Shelf.RegionOpen
import Derived.WalkKit
import Derived.OwnWalkIn
import Derived.TacticsInMore
import Derived.LoopNIn
import Derived.LoopIn
import Derived.Maps.AppendAt
import Derived.Sort.QuietIn
import Derived.Test.YtcjjbpoaojjojaaGreatDoorProg
import Derived.Test.YtcjjbpoaojjojaaGreatDoorJShelf
import Derived.Test.YtcjjbpoaojjojaaGreatDoorJRowedEtc
import Derived.Lib.Hide
import Derived.Lib.IndexBytes
import Derived.IntWalk
import Derived.Test.YtcjjbpoaojjojaaGreatDoorJPathedEtc
namespace Go.Proofs.YtcjjbpoaojjojaaGreatDoor
open Go

/-! strip -/
def stripE (s : List UInt8) (n : Int) : Nat := if partsE s = 0 then (if n < 0 then 2 else if ((cutL 47 s).length : Int) ≤ n then 3 else 0) else partsE s
def stripT (s : List UInt8) (n : Int) : List UInt8 := if stripE s n = 0 then [47].intercalate ((cutL 47 s).drop n.toNat) else []

theorem okB_slash : okB 47 = false := by decide
theorem part_free {x : List UInt8} (h : partB x = true) : (47 : UInt8) ∉ x := by
  intro hm
  have h2 : x.all okB = true := by unfold partB at h; simp only [Bool.and_eq_true] at h; exact h.2
  have := List.all_eq_true.1 h2 47 hm
  rw [okB_slash] at this; cases this
theorem part_ne {x : List UInt8} (h : partB x = true) : x ≠ [] ∧ x ≠ [46] ∧ x ≠ [46, 46] := by
  unfold partB at h
  simp only [Bool.and_eq_true, Bool.not_eq_true', beq_eq_false_iff_ne] at h
  exact ⟨h.1.1.1.1, h.1.1.2, h.1.2⟩

/-- Parts that are joined are cut again. -/
theorem cut_parts {w : List (List UInt8)} (hw : w ≠ []) (h : w.all partB = true) : cutL 47 ([47].intercalate w) = w :=
  cut_join 47 w hw fun x hx => part_free (List.all_eq_true.1 h x hx)
theorem partsE_join {w : List (List UInt8)} (hw : w ≠ []) (h : w.all partB = true) (hl : w.length ≤ 6) : partsE ([47].intercalate w) = 0 := by
  unfold partsE; rw [cut_parts hw h, if_pos h, if_neg (by omega)]
theorem drop_all {w : List (List UInt8)} (h : w.all partB = true) (n : Nat) : (w.drop n).all partB = true :=
  List.all_eq_true.2 fun x hx => List.all_eq_true.1 h x (List.mem_of_mem_drop hx)

/-- What PathStrips asks. -/
theorem strip_ok_iff {s : List UInt8} {n : Nat} (h : partsE s = 0) : stripE s n = 0 ↔ n < (cutL 47 s).length := by
  unfold stripE
  rw [if_pos h, if_neg (by omega)]
  split <;> omega
theorem strip_parts {s : List UInt8} {n : Nat} (h : partsE s = 0) (hn : n < (cutL 47 s).length) :
    stripT s n = [47].intercalate ((cutL 47 s).drop n) ∧ partsE (stripT s n) = 0 ∧ cutL 47 (stripT s n) = (cutL 47 s).drop n := by
  obtain ⟨h1, h2⟩ := partsE_ok h
  have e : stripT s n = [47].intercalate ((cutL 47 s).drop n) := by unfold stripT; rw [if_pos ((strip_ok_iff h).2 hn)]; rfl
  have hne : (cutL 47 s).drop n ≠ [] := by intro h3; have := congrArg List.length h3; simp at this; omega
  refine ⟨e, ?_, ?_⟩
  · rw [e]; exact partsE_join hne (drop_all h1 n) (by rw [List.length_drop]; omega)
  · rw [e]; exact cut_parts hne (drop_all h1 n)
/-! clean -/
def cleanW : List (List UInt8) → List (List UInt8) → Nat × List (List UInt8)
  | out, [] => (if 6 < out.length then 8 else 0, out)
  | out, w :: r =>
    if w = [] ∨ w = [46] then cleanW out r
    else if w = [46, 46] then (if out = [] then (10, []) else cleanW out.dropLast r)
    else if partB w then cleanW (out ++ [w]) r else (5, [])
def cleanE (s : List UInt8) : Nat := if s.head? = some 47 then 3 else (cleanW [] (cutL 47 s)).1
def cleanT (s : List UInt8) : List UInt8 := if cleanE s = 0 then [47].intercalate (cleanW [] (cutL 47 s)).2 else []
theorem all_dropLast {w : List (List UInt8)} (h : w.all partB = true) : w.dropLast.all partB = true :=
  List.all_eq_true.2 fun x hx => List.all_eq_true.1 h x (List.dropLast_subset w hx)
theorem cleanW_parts : ∀ (l out : List (List UInt8)), out.all partB = true → (cleanW out l).1 = 0 → (cleanW out l).2.all partB = true ∧ (cleanW out l).2.length ≤ 6
  | [], out, h, h0 => by
    rw [cleanW] at h0 ⊢
    refine ⟨h, ?_⟩
    simp only at h0
    split at h0
    · cases h0
    · show out.length ≤ 6; omega
  | w :: r, out, h, h0 => by
    rw [cleanW] at h0 ⊢
    split at h0
    · rename_i c; rw [if_pos c]; exact cleanW_parts r out h h0
    · rename_i c; rw [if_neg c]
      split at h0
      · rename_i c2; rw [if_pos c2]
        split at h0
        · cases h0
        · rename_i c3; rw [if_neg c3]; exact cleanW_parts r _ (all_dropLast h) h0
      · rename_i c2; rw [if_neg c2]
        split at h0
        · rename_i c3; rw [if_pos c3]
          exact cleanW_parts r _ (by rw [List.all_append, h]; simp [c3]) h0
        · cases h0
/-- Parts alone are kept as they are. -/
theorem cleanW_keep : ∀ (l out : List (List UInt8)), l.all partB = true → cleanW out l = (if 6 < (out ++ l).length then 8 else 0, out ++ l)
  | [], out, _ => by rw [cleanW, List.append_nil]
  | w :: r, out, h => by
    rw [List.all_cons, Bool.and_eq_true] at h
    obtain ⟨n1, n2, n3⟩ := part_ne h.1
    rw [cleanW, if_neg (by rintro (c | c); exact n1 c; exact n2 c), if_neg n3, if_pos h.1, cleanW_keep r _ h.2, List.append_assoc]
    rfl
/-- What stands below goes through, if nothing led up out of the upper. -/
theorem cleanW_below (D : List (List UInt8)) : ∀ (l out : List (List UInt8)), ((cleanW out l).1 = 0 ∨ (cleanW out l).1 = 8) → (cleanW (D ++ out) l).2 = D ++ (cleanW out l).2 ∧ (cleanW (D ++ out) l).1 = (if 6 < (D ++ (cleanW out l).2).length then 8 else 0)
  | [], out, _ => by rw [cleanW, cleanW]; exact ⟨rfl, rfl⟩
  | w :: r, out, h => by
    rw [cleanW] at h
    rw [cleanW, cleanW]
    split at h
    · rename_i c; rw [if_pos c, if_pos c]; exact cleanW_below D r out h
    · rename_i c; rw [if_neg c, if_neg c]
      split at h
      · rename_i c2; rw [if_pos c2, if_pos c2]
        split at h
        · simp at h
        · rename_i c3
          rw [if_neg c3, if_neg (by intro e; exact c3 (List.append_eq_nil_iff.1 e).2)]
          rw [List.dropLast_append_of_ne_nil c3]
          exact cleanW_below D r _ h
      · rename_i c2; rw [if_neg c2, if_neg c2]
        split at h
        · rename_i c3; rw [if_pos c3, if_pos c3]
          rw [List.append_assoc]
          exact cleanW_below D r _ h
        · simp at h

theorem cleanE_parts {s : List UInt8} (h : cleanE s = 0) : s.head? ≠ some 47 ∧ (cleanW [] (cutL 47 s)).1 = 0 ∧ (cleanW [] (cutL 47 s)).2.all partB = true ∧ (cleanW [] (cutL 47 s)).2.length ≤ 6 ∧ cleanT s = [47].intercalate (cleanW [] (cutL 47 s)).2 := by
  have e : cleanT s = [47].intercalate (cleanW [] (cutL 47 s)).2 := by unfold cleanT; rw [if_pos h]
  unfold cleanE at h
  split at h
  · cases h
  · rename_i h1
    obtain ⟨h2, h3⟩ := cleanW_parts _ [] rfl h
    exact ⟨h1, h, h2, h3, e⟩
theorem head_of_parts {w : List (List UInt8)} (h : w.all partB = true) (t : List UInt8) (hw : w ≠ []) : ([47].intercalate w ++ t).head? ≠ some 47 := by
  cases w with
  | nil => exact absurd rfl hw
  | cons x r =>
    rw [List.all_cons, Bool.and_eq_true] at h
    have hx := part_ne h.1
    have hf := part_free h.1
    cases x with
    | nil => exact absurd rfl hx.1
    | cons b x =>
      have hb : b ≠ 47 := fun e => hf (by simp [e])
      have : ([47].intercalate ((b :: x) :: r) ++ t).head? = some b := by
        cases r with
        | nil => simp [List.intercalate, List.intersperse]
        | cons y r => rw [join_cons]; rfl
      rw [this]; intro e; exact hb (Option.some.inj e)
/-- What is clean stays so. -/
theorem clean_again {s : List UInt8} (h : cleanE s = 0) : cleanE (cleanT s) = 0 ∧ cleanT (cleanT s) = cleanT s ∧ (cleanT s ≠ [] → partsE (cleanT s) = 0 ∧ cutL 47 (cleanT s) = (cleanW [] (cutL 47 s)).2) := by
  obtain ⟨_, _, h3, h4, h5⟩ := cleanE_parts h
  generalize (cleanW [] (cutL 47 s)).2 = out at *
  rw [h5]
  by_cases ho : out = []
  · subst ho
    exact ⟨by decide, by decide, fun h => absurd rfl h⟩
  · have hc := cut_parts ho h3
    have e1 : cleanE ([47].intercalate out) = 0 := by
      unfold cleanE
      rw [if_neg (by have := head_of_parts h3 [] ho; rwa [List.append_nil] at this), hc, cleanW_keep out [] h3]
      show (if 6 < ([] ++ out).length then 8 else 0) = 0
      rw [if_neg (by simpa using h4)]
    refine ⟨e1, ?_, fun _ => ⟨partsE_join ho h3 h4, hc⟩⟩
    unfold cleanT
    rw [if_pos e1, hc, cleanW_keep out [] h3]; rfl

/-! join -/
def joinS (d s : List UInt8) : List UInt8 := if d = [] then s else d ++ 47 :: s
/-- What is joined to a place is in it, if it does not lead up. -/
theorem join_in {d s : List UInt8} (hd : partsE d = 0) (hs : cleanE s = 0) (hc : cleanT s ≠ []) :
    (cleanE (joinS d s) = 0 ∨ cleanE (joinS d s) = 8) ∧ (cleanE (joinS d s) = 0 → cleanE (joinS d (cleanT s)) = 0 ∧ cleanT (joinS d (cleanT s)) = cleanT (joinS d s) ∧ cleanT (joinS d s) = d ++ 47 :: cleanT s ∧ partsE (cleanT (joinS d s)) = 0) := by
  obtain ⟨d1, d2⟩ := partsE_ok hd
  obtain ⟨h1, h2, h3, h4, h5⟩ := cleanE_parts hs
  have hdne : d ≠ [] := by rintro rfl; rw [partsE_nil] at hd; cases hd
  have hcc := (clean_again hs).2.2 hc
  have ej : ∀ t, joinS d t = d ++ 47 :: t := fun t => by unfold joinS; rw [if_neg hdne]
  have hh : ∀ t, (d ++ 47 :: t).head? ≠ some 47 := fun t => by
    have := head_of_parts d1 (47 :: t) (cutL_ne 47 d)
    rwa [cutL_join] at this
  have key : ∀ t, cleanW [] (cutL 47 (d ++ 47 :: t)) = cleanW (cutL 47 d) (cutL 47 t) := fun t => by
    rw [cutL_app]
    have aux : ∀ (l out m : List (List UInt8)), l.all partB = true → cleanW out (l ++ m) = cleanW (out ++ l) m := by
      intro l
      induction l with
      | nil => intro out m _; simp
      | cons x r ih =>
        intro out m hx
        rw [List.all_cons, Bool.and_eq_true] at hx
        obtain ⟨n1, n2, n3⟩ := part_ne hx.1
        rw [List.cons_append, cleanW, if_neg (by rintro (c | c); exact n1 c; exact n2 c), if_neg n3, if_pos hx.1, ih _ _ hx.2, List.append_assoc]
        rfl
    have := aux (cutL 47 d) [] (cutL 47 t) d1
    rwa [List.nil_append] at this
  have b1 := cleanW_below (cutL 47 d) (cutL 47 s) [] (.inl h2)
  rw [List.append_nil] at b1
  obtain ⟨b2, b3⟩ := b1
  have eE : cleanE (joinS d s) = if 6 < (cutL 47 d ++ (cleanW [] (cutL 47 s)).2).length then 8 else 0 := by
    unfold cleanE
    rw [ej, if_neg (hh s), key, b3]
  refine ⟨?_, fun h0 => ?_⟩
  · rw [eE]; split
    · exact .inr rfl
    · exact .inl rfl
  · have hlen : (cutL 47 d ++ (cleanW [] (cutL 47 s)).2).length ≤ 6 := by
      rw [eE] at h0
      split at h0
      · cases h0
      · omega
    generalize hout : (cleanW [] (cutL 47 s)).2 = out at *
    have hone : out ≠ [] := by
      intro e; apply hc; rw [h5, e]; rfl
    have hall : (cutL 47 d ++ out).all partB = true := by rw [List.all_append, d1, h3]; rfl
    have k2 : cleanW [] (cutL 47 (d ++ 47 :: cleanT s)) = (0, cutL 47 d ++ out) := by
      rw [key, hcc.2, cleanW_keep out _ h3, if_neg (by omega)]
    have hd2 : d = [47].intercalate (cutL 47 d) := (cutL_join 47 d).symm
    have jj : [47].intercalate (cutL 47 d ++ out) = d ++ 47 :: cleanT s := by
      have hh2 : [47].intercalate (cutL 47 d ++ out) = [47].intercalate (cutL 47 (d ++ 47 :: cleanT s)) := by
        rw [cutL_app, hcc.2]
      rw [hh2, cutL_join]
    have t1 : cleanT (joinS d s) = d ++ 47 :: cleanT s := by
      unfold cleanT at *
      rw [if_pos h0, ej, key, b2, jj]
    have e2 : cleanE (joinS d (cleanT s)) = 0 := by
      unfold cleanE; rw [ej, if_neg (hh _), k2]
    have t2 : cleanT (joinS d (cleanT s)) = d ++ 47 :: cleanT s := by
      show (if cleanE (joinS d (cleanT s)) = 0 then _ else _) = _
      rw [if_pos e2, ej, k2]; exact jj
    refine ⟨e2, by rw [t2, t1], t1, ?_⟩
    rw [t1, ← jj]
    exact partsE_join (by intro e; exact hone (List.append_eq_nil_iff.1 e).2) hall hlen
end Go.Proofs.YtcjjbpoaojjojaaGreatDoor

namespace Go.Proofs.YtcjjbpoaojjojaaGreatDoor
open Go Go.RowKit

variable {F : Fence} {n : Nat} {P : Program}

/-- What is said stays true when the iterator's own cell (block Bs) is written, and when a block that is no cells and lies at or beyond B is turned. -/
def Calm {β : Type} (B Bs : Nat) (I : β → World → Prop) : Prop :=
  ∀ s W W' row, I s W → W.grownBy W' row → (∀ r, row = some r → r = Bs ∨ (B ≤ r ∧ ∃ o : Obj, W.heap[r]? = some o ∧ o.isCells = false)) → I s W'
theorem Calm.put {β : Type} {B Bs : Nat} {I : β → World → Prop} (h : Calm B Bs I) {s : β} {W : World} {l : Nat} {o : Obj} (o' : Obj) (hs : I s W) (hB : B ≤ l) (hl : W.heap[l]? = some o) (ho : o.isCells = false) : I s (W.putObj l o') :=
  h s W _ (some l) hs (grownBy_putObj' W l o') (fun r e => by cases e; exact .inr ⟨hB, o, hl, ho⟩)
theorem Calm.alloc {β : Type} {B Bs : Nat} {I : β → World → Prop} (h : Calm B Bs I) {s : β} {W : World} (o : Obj) (hs : I s W) : I s (W.alloc o) :=
  h s W _ none hs (World.grownBy_alloc W o none) (fun r e => by cases e)
theorem Calm.set {β : Type} {B Bs : Nat} {I : β → World → Prop} (h : Calm B Bs I) {s : β} {W : World} (v : Value) (hs : I s W) : I s (W.setCell ⟨Bs, 0, none⟩ v) :=
  h s W _ (some Bs) hs (grownBy_setCell' W Bs v) (fun r e => by cases e; exact .inl rfl)

/-- The blocks from lo on, up to hi, lie as they lay. -/
def Same (lo hi : Nat) (W W' : World) : Prop := ∀ b, lo ≤ b → b < hi → W'.heap[b]? = W.heap[b]?
theorem Same.refl (lo hi : Nat) (W : World) : Same lo hi W W := fun _ _ _ => rfl
theorem Same.trans {lo hi : Nat} {A B C : World} (h : Same lo hi A B) (k : Same lo hi B C) : Same lo hi A C := fun b h1 h2 => (k b h1 h2).trans (h b h1 h2)
theorem Same.put {lo hi : Nat} {A W : World} (h : Same lo hi A W) {l : Nat} (hl : hi ≤ l) (o : Obj) : Same lo hi A (W.putObj l o) := fun b h1 h2 => (World.putObj_heap_other (by omega)).trans (h b h1 h2)
theorem Same.grown {lo hi : Nat} {W W' : World} {row : Option Nat} (hg : W.grownBy W' row) (hhi : hi ≤ W.heap.size) (hr : ∀ r, row = some r → r < lo ∨ hi ≤ r) : Same lo hi W W' := fun b h1 h2 =>
  hg.block b (by omega) (fun e => by have := hr b e.symm; omega)

end Go.Proofs.YtcjjbpoaojjojaaGreatDoor

namespace Go.Proofs.YtcjjbpoaojjojaaGreatDoor
open Go Go.RowKit Go.Shelf
attribute [local go_sem] Oper.semAt_some

end Go.Proofs.YtcjjbpoaojjojaaGreatDoor

namespace Go.Proofs.YtcjjbpoaojjojaaGreatDoor
open Go Go.RowKit Go.Shelf
attribute [local go_sem] Oper.semAt_some

structure CEnv (E : Nat → Addr) (w : World) : Prop where
  path : PEnv E w
  shape : w.cell? ⟨1, 0, none⟩ = some (sentV E 2)
  out : w.cell? ⟨10, 0, none⟩ = some (sentV E 9)
theorem CEnv.ext {E : Nat → Addr} {w w' : World} (h : CEnv E w) (hb : Below w.heap.size w w') : CEnv E w' :=
  ⟨h.path.ext hb, by rw [hb.cell (p := ⟨1, 0, none⟩) (lt_of_cell h.shape)]; exact h.shape, by rw [hb.cell (p := ⟨10, 0, none⟩) (lt_of_cell h.out)]; exact h.out⟩

/-- What path.Clean hands back. -/
def CleanPost (E : Nat → Addr) (s : ByteArray) (w : World) (e : Ending) (w' : World) : Prop :=
  (∃ x : ByteArray, e = .returned (.tuple #[.string x, errV E (cleanE (bl s))]) ∧ Hid (bl x = cleanT (bl s))) ∧ Below w.heap.size w w'

theorem row_mono {w : World} {base base' : Nat} {e : TypeId} {size : Nat} {v : Value} {n : Nat} {xs : List Value} (h : w.ownsRow base e size v n xs) (hb : base' ≤ base) : w.ownsRow base' e size v n xs := by
  obtain ⟨h1, h2 | ⟨g, cap, cur, h3, h4, h5⟩⟩ := h
  · exact ⟨h1, .inl h2⟩
  · exact ⟨h1, .inr ⟨g, cap, cur, h3, Nat.le_trans hb h4, h5⟩⟩
theorem grown_of {W W' : World} (hb : Below W.heap.size W W') : W.grownBy W' none := ⟨hb.os, hb.tape, hb.output, hb.size, fun k hk _ => hb.block k hk⟩
end Go.Proofs.YtcjjbpoaojjojaaGreatDoor
