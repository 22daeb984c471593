/- What a pack tells, in plain Lean. What is packed is read, what is read is packed so; what is cut short. A pack is read file by file, in plain Lean. -/
import Derived.Test.YtomceddfbfpjjaaGreatDoorKPlainly
import Derived.Test.YtomceddfbfpjjaaGreatDoorKPackedUp
import Derived.Test.YtomceddfbfpjjaaGreatDoorKTreed
namespace Go.Proofs.YtomceddfbfpjjaaGreatDoor
open Go

theorem cutB {l sep : List UInt8} (h : (Lib.cut l sep).2.2 = true) : l = (Lib.cut l sep).1 ++ (sep ++ (Lib.cut l sep).2.1) := by
  rcases Lib.index_spec l sep with ⟨h1, _⟩ | ⟨i, h1, _, h3, _⟩
  · unfold Lib.cut at h; rw [h1] at h; simp at h
  · obtain ⟨r, hr⟩ := List.isPrefixOf_iff_prefix.1 h3
    have e : Lib.cut l sep = (l.take i, l.drop (i + sep.length), true) := by
      unfold Lib.cut
      rw [h1, if_pos (by omega)]
      simp
    rw [e]
    show l = l.take i ++ (sep ++ l.drop (i + sep.length))
    have : l.drop (i + sep.length) = r := by rw [← List.drop_drop, ← hr, List.drop_left]
    rw [this, hr, List.take_append_drop]

def mkF (p : List UInt8) (r : Bool) (t : List UInt8) : FileB := ⟨⟨p.toArray⟩, r, ⟨t.toArray⟩⟩
theorem mkF_bl (a b : ByteArray) (r : Bool) : mkF (bl a) r (bl b) = ⟨a, r, b⟩ := by
  unfold mkF
  rw [show (⟨(bl a).toArray⟩ : ByteArray) = a from bl_inj rfl, show (⟨(bl b).toArray⟩ : ByteArray) = b from bl_inj rfl]
/-- The first line of a file: its path, whether it may be run, how long its text is. -/
def headW : List (List UInt8) → Option (List UInt8 × Bool × Nat)
  | [p, m, d] => if m = [102] ∨ m = [120] then (numOf d 6).map (fun n => (p, m == [120], n)) else none
  | _ => none
def headL (l : List UInt8) : Option (List UInt8 × Bool × Nat) := headW (cutL 32 l)
def bodyL (b : List UInt8) : Option (List UInt8 × Bool × Nat) → Option (FileB × List UInt8)
  | some (p, r, n) => if b[n]? = some 10 then some (mkF p r (b.take n), b.drop (n + 1)) else none
  | none => none
/-- The file at the beginning, and what stands behind it. -/
def pieceL (l : List UInt8) : Option (FileB × List UInt8) := if (Lib.cut l [10]).2.2 = true then bodyL (Lib.cut l [10]).2.1 (headL (Lib.cut l [10]).1) else none
def piecesL : Nat → List UInt8 → List FileB × Bool
  | _, [] => ([], true)
  | 0, _ :: _ => ([], false)
  | f + 1, c :: l => match pieceL (c :: l) with
    | none => ([], false)
    | some p => (p.1 :: (piecesL f p.2).1, (piecesL f p.2).2)
def allL (s : List UInt8) : List FileB × Bool := piecesL s.length s
/-- What is wrong with a pack. -/
def readEr (s : List UInt8) : Er := if 20000 < s.length then ⟨2, none⟩ else if (allL s).2 = true then treeEr (allL s).1 else ⟨1, some ((allL s).1.length : Int)⟩
def readT (s : List UInt8) : List FileB := if (readEr s).code = 0 then (allL s).1 else []

theorem headW_some {w : List (List UInt8)} {p : List UInt8} {r : Bool} {n : Nat} (h : headW w = some (p, r, n)) : w = [p, [modeB r], Lib.decDigits n] ∧ (Lib.decDigits n).length ≤ 6 := by
  unfold headW at h
  split at h
  · rename_i p' m d
    split at h
    · rename_i hm
      cases hd : numOf d 6 with
      | none => rw [hd] at h; cases h
      | some n' =>
        rw [hd] at h
        simp only [Option.map_some, Option.some.injEq, Prod.mk.injEq] at h
        obtain ⟨rfl, hr, rfl⟩ := h
        obtain ⟨h1, h2⟩ := numOf_some hd
        subst h1
        refine ⟨?_, h2⟩
        rcases hm with rfl | rfl
        · obtain rfl : r = false := by rw [← hr]; decide
          rfl
        · obtain rfl : r = true := by rw [← hr]; decide
          rfl
    · cases h
  · cases h
/-- The first line. -/
def lineL (p : List UInt8) (r : Bool) (n : Nat) : List UInt8 := p ++ 32 :: ([modeB r] ++ 32 :: Lib.decDigits n)
theorem packOne_line (f : FileB) : packOne f = lineL (bl f.path) f.run f.text.size ++ 10 :: (bl f.text ++ [10]) := by
  unfold packOne lineL; simp
theorem headL_some {l : List UInt8} {p : List UInt8} {r : Bool} {n : Nat} (h : headL l = some (p, r, n)) : l = lineL p r n ∧ (Lib.decDigits n).length ≤ 6 := by
  obtain ⟨h1, h2⟩ := headW_some h
  refine ⟨?_, h2⟩
  have := cutL_join 32 l
  rw [h1, join_cons, join_cons] at this
  rw [← this]
  unfold lineL
  simp
theorem pieceL_inv {l r : List UInt8} {f : FileB} (h : pieceL l = some (f, r)) : l = packOne f ++ r ∧ (Lib.decDigits f.text.size).length ≤ 6 := by
  unfold pieceL at h
  split at h
  · rename_i hc
    have he := cutB hc
    cases hh : headL (Lib.cut l [10]).1 with
    | none => rw [hh] at h; cases h
    | some q =>
      obtain ⟨p, m, n⟩ := q
      rw [hh] at h
      obtain ⟨h1, h2⟩ := headL_some hh
      unfold bodyL at h
      simp only at h
      split at h
      · rename_i hx
        injection h with h
        injection h with hf hr
        generalize (Lib.cut l [10]).2.1 = b at *
        have hlt : n < b.length := (List.getElem?_eq_some_iff.1 hx).1
        have hget : b[n] = 10 := (List.getElem?_eq_some_iff.1 hx).2
        have hts : f.text.size = n := by
          rw [← hf, ← bl_length]
          show (bl ⟨(b.take n).toArray⟩).length = n
          rw [bl_mk, List.length_take]; omega
        refine ⟨?_, by rw [hts]; exact h2⟩
        rw [packOne_line, hts]
        have e1 : bl f.path = p := by rw [← hf]; rfl
        have e2 : f.run = m := by rw [← hf]; rfl
        have e3 : bl f.text = b.take n := by rw [← hf]; rfl
        rw [e1, e2, e3, ← hr, he, h1, List.append_assoc]
        congr 1
        show 10 :: _ = 10 :: _
        congr 1
        conv => lhs; rw [← List.take_append_drop n b]
        rw [List.drop_eq_getElem_cons hlt, hget]
        show List.take n b ++ _ = (List.take n b ++ [10]) ++ _
        rw [List.append_assoc]; rfl
      · cases h
  · cases h
theorem packOne_pos (f : FileB) : 0 < (packOne f).length := by unfold packOne; simp only [List.length_append, List.length_cons]; omega
theorem pieceL_lt {l r : List UInt8} {f : FileB} (h : pieceL l = some (f, r)) : r.length < l.length := by
  have := (pieceL_inv h).1
  have h2 := packOne_pos f
  rw [this, List.length_append]; omega
theorem piecesL_nil (m : Nat) : piecesL m [] = ([], true) := by cases m <;> rfl
theorem piecesL_some {m : Nat} {l r : List UInt8} {f : FileB} (h : pieceL l = some (f, r)) (hm : l.length ≤ m) : ∃ m', r.length ≤ m' ∧ piecesL m l = (f :: (piecesL m' r).1, (piecesL m' r).2) := by
  have hlt := pieceL_lt h
  cases l with
  | nil => simp at hlt
  | cons c l =>
    cases m with
    | zero => simp at hm
    | succ m =>
      refine ⟨m, by omega, ?_⟩
      show (match pieceL (c :: l) with | none => _ | some p => _) = _
      rw [h]
theorem piecesL_none {m : Nat} {l : List UInt8} (h : pieceL l = none) (hl : l ≠ []) : piecesL m l = ([], false) := by
  cases l with
  | nil => exact absurd rfl hl
  | cons c l =>
    cases m with
    | zero => rfl
    | succ m =>
      show (match pieceL (c :: l) with | none => _ | some p => _) = _
      rw [h]
/-- What is read was written so. -/
theorem piecesL_back : ∀ (m : Nat) (s : List UInt8), s.length ≤ m → (piecesL m s).2 = true → packL (piecesL m s).1 = s
  | m, [], _, _ => by rw [piecesL_nil]; rfl
  | 0, _ :: _, h, _ => by simp at h
  | m + 1, c :: s, h, h2 => by
    cases hp : pieceL (c :: s) with
    | none => rw [piecesL_none hp (by simp)] at h2; cases h2
    | some q =>
      obtain ⟨f, r⟩ := q
      obtain ⟨m', h3, h4⟩ := piecesL_some hp h
      have hlt := pieceL_lt hp
      have e : piecesL (m + 1) (c :: s) = (f :: (piecesL m r).1, (piecesL m r).2) := by
        show (match pieceL (c :: s) with | none => _ | some p => _) = _
        rw [hp]
      rw [e] at h2 ⊢
      show packL (f :: _) = _
      rw [packL_cons, piecesL_back m r (by simp at h hlt; omega) h2]
      exact ((pieceL_inv hp).1).symm
end Go.Proofs.YtomceddfbfpjjaaGreatDoor

namespace Go.Proofs.YtomceddfbfpjjaaGreatDoor
open Go

theorem fileE_zero {ahead : List FileB} {f : FileB} (h : fileE ahead f = 0) : partsE (bl f.path) = 0 ∧ f.text.size ≤ 4000 := by
  unfold fileE at h
  split at h
  · exact absurd h (by assumption)
  · rename_i h1
    split at h
    · cases h
    · exact ⟨by simpa using h1, by omega⟩
theorem filesE_none : ∀ (l : List FileB) (ahead : List FileB) (i : Nat), filesE ahead i l = none → ∀ f ∈ l, partsE (bl f.path) = 0 ∧ f.text.size ≤ 4000
  | [], _, _, _ => fun f hf => by cases hf
  | f :: l, ahead, i, h => by
    unfold filesE at h
    split at h
    · rename_i h0
      intro g hg
      rcases List.mem_cons.1 hg with rfl | hg
      · exact fileE_zero h0
      · exact filesE_none l _ _ h g hg
    · cases h
theorem filesE_some : ∀ (l : List FileB) (ahead : List FileB) (i : Nat) (p : Nat × Nat), filesE ahead i l = some p → p.2 ≠ 0
  | [], _, _, _, h => by cases h
  | f :: l, ahead, i, p, h => by
    unfold filesE at h
    split at h
    · exact filesE_some l _ _ p h
    · rename_i h0
      injection h with h
      rw [← h]; exact h0
/-- A right tree. -/
theorem treeEr_zero {l : List FileB} (h : (treeEr l).code = 0) : treeEr l = ⟨0, none⟩ ∧ l.length ≤ 30 ∧ allText l ≤ 12000 ∧ ∀ f ∈ l, partsE (bl f.path) = 0 ∧ f.text.size ≤ 4000 := by
  unfold treeEr at h ⊢
  split at h
  · cases h
  · rename_i h30
    rw [if_neg h30]
    cases hf : filesE [] 0 l with
    | some p =>
      rw [hf] at h
      exact absurd h (filesE_some l [] 0 p hf)
    | none =>
      rw [hf] at h
      simp only at h ⊢
      split at h
      · cases h
      · rename_i ha
        rw [if_neg ha]
        exact ⟨rfl, by omega, by omega, filesE_none l [] 0 hf⟩

theorem join_length (d : UInt8) (m : Nat) : ∀ (w : List (List UInt8)), (∀ x ∈ w, x.length ≤ m) → ([d].intercalate w).length ≤ (m + 1) * w.length
  | [], _ => by simp [List.intercalate]
  | [x], h => by
    have := h x (by simp)
    simp [List.intercalate]; omega
  | x :: y :: r, h => by
    have h1 := h x (by simp)
    have h2 := join_length d m (y :: r) (fun z hz => h z (List.mem_cons_of_mem _ hz))
    rw [join_cons, List.length_append, List.length_cons, List.length_cons, Nat.mul_succ]
    omega
theorem partB_len {x : List UInt8} (h : partB x = true) : x.length ≤ 12 := by
  unfold partB at h
  simp only [Bool.and_eq_true] at h
  exact of_decide_eq_true h.1.1.1.2
theorem path_len {s : List UInt8} (h : partsE s = 0) : s.length ≤ 78 := by
  have h1 := join_length 47 12 (cutL 47 s) (fun x hx => partB_len (List.all_eq_true.1 (partsE_ok h).1 x hx))
  rw [cutL_join] at h1
  have := (partsE_ok h).2
  omega
/-- What is read was written so. -/
theorem read_back {s : List UInt8} (h : (readEr s).code = 0) : (treeEr (readT s)).code = 0 ∧ packL (readT s) = s ∧ readEr s = ⟨0, none⟩ := by
  have e : readT s = (allL s).1 := by unfold readT; rw [if_pos h]
  rw [e]
  unfold readEr at h ⊢
  split at h
  · cases h
  · rename_i h20
    rw [if_neg h20]
    split at h
    · rename_i h2
      rw [if_pos h2]
      exact ⟨h, piecesL_back _ s (Nat.le_refl _) h2, (treeEr_zero h).1⟩
    · cases h
end Go.Proofs.YtomceddfbfpjjaaGreatDoor

namespace Go.Proofs.YtomceddfbfpjjaaGreatDoor
open Go

/-- So far read, and what is left. -/
def PStep (s : List UInt8) (acc : List FileB) (rest : List UInt8) : Prop := s = packL acc ++ rest ∧ ∃ m, rest.length ≤ m ∧ allL s = (acc ++ (piecesL m rest).1, (piecesL m rest).2)
theorem PStep.start (s : List UInt8) : PStep s [] s := ⟨rfl, s.length, Nat.le_refl _, rfl⟩
theorem PStep.next {s rest r : List UInt8} {acc : List FileB} {f : FileB} (h : PStep s acc rest) (hp : pieceL rest = some (f, r)) : PStep s (acc ++ [f]) r := by
  obtain ⟨h1, m, h2, h3⟩ := h
  obtain ⟨m', h4, h5⟩ := piecesL_some hp h2
  refine ⟨?_, m', h4, ?_⟩
  · rw [packL_snoc, List.append_assoc, ← (pieceL_inv hp).1]; exact h1
  · rw [h3, h5, List.append_assoc]; rfl
theorem PStep.bad {s rest : List UInt8} {acc : List FileB} (h : PStep s acc rest) (hp : pieceL rest = none) (hne : rest ≠ []) : allL s = (acc, false) := by
  obtain ⟨_, m, _, h3⟩ := h
  rw [h3, piecesL_none hp hne, List.append_nil]
theorem PStep.done {s : List UInt8} {acc : List FileB} (h : PStep s acc []) : allL s = (acc, true) := by
  obtain ⟨_, m, _, h3⟩ := h
  rw [h3, piecesL_nil, List.append_nil]
theorem packOne_five (f : FileB) : f.path.size + f.text.size + 5 ≤ (packOne f).length := by
  unfold packOne
  simp only [List.length_append, List.length_cons, List.length_nil, bl_length]
  omega
theorem packL_five : ∀ (l : List FileB), 5 * l.length ≤ (packL l).length ∧ ∀ f ∈ l, f.path.size + f.text.size ≤ (packL l).length
  | [] => ⟨Nat.zero_le _, fun f hf => by cases hf⟩
  | f :: l => by
    obtain ⟨h1, h2⟩ := packL_five l
    have h3 := packOne_five f
    rw [packL_cons, List.length_append, List.length_cons]
    refine ⟨by omega, fun g hg => ?_⟩
    rcases List.mem_cons.1 hg with rfl | hg
    · omega
    · have := h2 g hg; omega
theorem PStep.small {s rest : List UInt8} {acc : List FileB} (h : PStep s acc rest) (hs : s.length ≤ 20000) : acc.length ≤ 4000 ∧ (∀ f ∈ acc, f.path.size ≤ 30000 ∧ f.text.size ≤ 100000) ∧ rest.length ≤ s.length := by
  obtain ⟨h1, _⟩ := h
  have h2 := congrArg List.length h1
  rw [List.length_append] at h2
  obtain ⟨h3, h4⟩ := packL_five acc
  refine ⟨by omega, fun f hf => ?_, by omega⟩
  have := h4 f hf
  omega
theorem readEr_big {s : List UInt8} (h : 20000 < s.length) : readEr s = ⟨2, none⟩ ∧ readT s = [] := by
  have e : readEr s = ⟨2, none⟩ := by unfold readEr; rw [if_pos h]
  exact ⟨e, by unfold readT; rw [e]; rfl⟩
theorem readEr_bad {s : List UInt8} {acc : List FileB} (h : ¬ 20000 < s.length) (ha : allL s = (acc, false)) : readEr s = ⟨1, some (acc.length : Int)⟩ ∧ readT s = [] := by
  have e : readEr s = ⟨1, some (acc.length : Int)⟩ := by unfold readEr; rw [if_neg h, ha]; rfl
  exact ⟨e, by unfold readT; rw [e]; rfl⟩
theorem readEr_all {s : List UInt8} {acc : List FileB} (h : ¬ 20000 < s.length) (ha : allL s = (acc, true)) : readEr s = treeEr acc ∧ readT s = if (treeEr acc).code = 0 then acc else [] := by
  have e : readEr s = treeEr acc := by unfold readEr; rw [if_neg h, ha]; rfl
  exact ⟨e, by unfold readT; rw [e, ha]⟩
end Go.Proofs.YtomceddfbfpjjaaGreatDoor
