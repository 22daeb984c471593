/- Plain: paths stripped, cleaned, joined: what the laws ask. No program in sight. -/
import Derived.Test.YtjebljhhbnfpfaaDoorJPlainly
namespace Go.Proofs.YtjebljhhbnfpfaaDoor
open Go

/-! strip -/
def stripE (s : List UInt8) (n : Int) : Nat := if partsE s = 0 then (if n < 0 then 2 else if ((cutL 47 s).length : Int) ≤ n then 3 else 0) else partsE s
def stripT (s : List UInt8) (n : Int) : List UInt8 := if stripE s n = 0 then [47].intercalate ((cutL 47 s).drop n.toNat) else []

theorem okB_slash : okB 47 = false := by decide
theorem part_free {x : List UInt8} (h : partB x = true) : (47 : UInt8) ∉ x := by
  intro hm
  have h2 : x.all okB = true := by unfold partB at h; simp only [Bool.and_eq_true] at h; exact h.2
  have := List.all_eq_true.1 h2 47 hm
  rw [okB_slash] at this; cases this
theorem part_ne {x : List UInt8} (h : partB x = true) : x ≠ [] ∧ x ≠ [46] ∧ x ≠ [46, 46] := by
  unfold partB at h
  simp only [Bool.and_eq_true, Bool.not_eq_true', beq_eq_false_iff_ne] at h
  exact ⟨h.1.1.1.1, h.1.1.2, h.1.2⟩

/-- Parts that are joined are cut again. -/
theorem cut_parts {w : List (List UInt8)} (hw : w ≠ []) (h : w.all partB = true) : cutL 47 ([47].intercalate w) = w :=
  cut_join 47 w hw fun x hx => part_free (List.all_eq_true.1 h x hx)
theorem partsE_join {w : List (List UInt8)} (hw : w ≠ []) (h : w.all partB = true) (hl : w.length ≤ 6) : partsE ([47].intercalate w) = 0 := by
  unfold partsE; rw [cut_parts hw h, if_pos h, if_neg (by omega)]
theorem join_ne {w : List (List UInt8)} (hw : w ≠ []) (h : w.all partB = true) : [47].intercalate w ≠ ([] : List UInt8) := by
  intro e
  have := cut_parts hw h
  rw [e] at this
  have h2 : cutL 47 [] = [[]] := rfl
  rw [h2] at this
  rw [← this] at h
  have h3 : ([[]] : List (List UInt8)).all partB = false := by decide
  rw [h3] at h; cases h

/-- The first parts, each with its slash. -/
def headOf (w : List (List UInt8)) : List UInt8 := w.flatMap fun x => x ++ [47]
theorem head_join : ∀ (n : Nat) (w : List (List UInt8)), n < w.length → headOf (w.take n) ++ [47].intercalate (w.drop n) = [47].intercalate w
  | 0, w, _ => by simp [headOf]
  | n + 1, [], h => by simp at h
  | n + 1, [x], h => by simp at h
  | n + 1, x :: y :: r, h => by
    have ih := head_join n (y :: r) (by simpa using h)
    rw [join_cons, ← ih]
    simp [headOf, List.flatMap_cons]
theorem drop_all {w : List (List UInt8)} (h : w.all partB = true) (n : Nat) : (w.drop n).all partB = true :=
  List.all_eq_true.2 fun x hx => List.all_eq_true.1 h x (List.mem_of_mem_drop hx)

/-- What PathStrips asks. -/
theorem strip_ok_iff {s : List UInt8} {n : Nat} (h : partsE s = 0) : stripE s n = 0 ↔ n < (cutL 47 s).length := by
  unfold stripE
  rw [if_pos h, if_neg (by omega)]
  split <;> omega
theorem strip_parts {s : List UInt8} {n : Nat} (h : partsE s = 0) (hn : n < (cutL 47 s).length) :
    stripT s n = [47].intercalate ((cutL 47 s).drop n) ∧ partsE (stripT s n) = 0 ∧ cutL 47 (stripT s n) = (cutL 47 s).drop n := by
  obtain ⟨h1, h2⟩ := partsE_ok h
  have e : stripT s n = [47].intercalate ((cutL 47 s).drop n) := by unfold stripT; rw [if_pos ((strip_ok_iff h).2 hn)]; rfl
  have hne : (cutL 47 s).drop n ≠ [] := by intro h3; have := congrArg List.length h3; simp at this; omega
  refine ⟨e, ?_, ?_⟩
  · rw [e]; exact partsE_join hne (drop_all h1 n) (by rw [List.length_drop]; omega)
  · rw [e]; exact cut_parts hne (drop_all h1 n)
theorem strip_head {s : List UInt8} {n : Nat} (h : partsE s = 0) (hn : n < (cutL 47 s).length) : headOf ((cutL 47 s).take n) ++ stripT s n = s := by
  rw [(strip_parts h hn).1, head_join n _ hn, cutL_join]
theorem strip_more {s : List UInt8} {n m : Nat} (h : partsE s = 0) (hn : n < (cutL 47 s).length) :
    (stripE (stripT s n) m = 0 ↔ stripE s (n + m : Nat) = 0) ∧ stripT (stripT s n) m = stripT s (n + m : Nat) := by
  obtain ⟨e1, e2, e3⟩ := strip_parts h hn
  have i1 := strip_ok_iff (n := m) e2
  have i2 := strip_ok_iff (n := n + m) h
  rw [e3, List.length_drop] at i1
  have ii : stripE (stripT s n) m = 0 ↔ stripE s (n + m : Nat) = 0 := by rw [i1, i2]; omega
  refine ⟨ii, ?_⟩
  by_cases h0 : stripE s (n + m : Nat) = 0
  · unfold stripT at *
    rw [if_pos h0]
    rw [if_pos (ii.2 h0)]
    show [47].intercalate ((cutL 47 _).drop m) = [47].intercalate ((cutL 47 s).drop (n + m))
    rw [e3, List.drop_drop]
  · rw [show stripT s (n + m : Nat) = [] by unfold stripT; rw [if_neg h0]]
    unfold stripT
    rw [if_neg]
    intro h1; exact h0 (ii.1 h1)

/-! clean -/
def cleanW : List (List UInt8) → List (List UInt8) → Nat × List (List UInt8)
  | out, [] => (if 6 < out.length then 8 else 0, out)
  | out, w :: r =>
    if w = [] ∨ w = [46] then cleanW out r
    else if w = [46, 46] then (if out = [] then (10, []) else cleanW out.dropLast r)
    else if partB w then cleanW (out ++ [w]) r else (5, [])
def cleanE (s : List UInt8) : Nat := if s.head? = some 47 then 3 else (cleanW [] (cutL 47 s)).1
def cleanT (s : List UInt8) : List UInt8 := if cleanE s = 0 then [47].intercalate (cleanW [] (cutL 47 s)).2 else []
theorem cleanW_le : ∀ (l out : List (List UInt8)), (cleanW out l).1 ≤ 13
  | [], out => by rw [cleanW]; show (if 6 < out.length then 8 else 0) ≤ 13; split <;> decide
  | w :: r, out => by
    rw [cleanW]; split
    · exact cleanW_le r _
    · split
      · split
        · decide
        · exact cleanW_le r _
      · split
        · exact cleanW_le r _
        · decide
theorem cleanE_le (s : List UInt8) : cleanE s ≤ 13 := by unfold cleanE; split; decide; exact cleanW_le _ _

theorem all_dropLast {w : List (List UInt8)} (h : w.all partB = true) : w.dropLast.all partB = true :=
  List.all_eq_true.2 fun x hx => List.all_eq_true.1 h x (List.dropLast_subset w hx)
theorem cleanW_parts : ∀ (l out : List (List UInt8)), out.all partB = true → (cleanW out l).1 = 0 → (cleanW out l).2.all partB = true ∧ (cleanW out l).2.length ≤ 6
  | [], out, h, h0 => by
    rw [cleanW] at h0 ⊢
    refine ⟨h, ?_⟩
    simp only at h0
    split at h0
    · cases h0
    · show out.length ≤ 6; omega
  | w :: r, out, h, h0 => by
    rw [cleanW] at h0 ⊢
    split at h0
    · rename_i c; rw [if_pos c]; exact cleanW_parts r out h h0
    · rename_i c; rw [if_neg c]
      split at h0
      · rename_i c2; rw [if_pos c2]
        split at h0
        · cases h0
        · rename_i c3; rw [if_neg c3]; exact cleanW_parts r _ (all_dropLast h) h0
      · rename_i c2; rw [if_neg c2]
        split at h0
        · rename_i c3; rw [if_pos c3]
          exact cleanW_parts r _ (by rw [List.all_append, h]; simp [c3]) h0
        · cases h0
/-- Parts alone are kept as they are. -/
theorem cleanW_keep : ∀ (l out : List (List UInt8)), l.all partB = true → cleanW out l = (if 6 < (out ++ l).length then 8 else 0, out ++ l)
  | [], out, _ => by rw [cleanW, List.append_nil]
  | w :: r, out, h => by
    rw [List.all_cons, Bool.and_eq_true] at h
    obtain ⟨n1, n2, n3⟩ := part_ne h.1
    rw [cleanW, if_neg (by rintro (c | c); exact n1 c; exact n2 c), if_neg n3, if_pos h.1, cleanW_keep r _ h.2, List.append_assoc]
    rfl
/-- What stands below goes through, if nothing led up out of the upper. -/
theorem cleanW_below (D : List (List UInt8)) : ∀ (l out : List (List UInt8)), ((cleanW out l).1 = 0 ∨ (cleanW out l).1 = 8) → (cleanW (D ++ out) l).2 = D ++ (cleanW out l).2 ∧ (cleanW (D ++ out) l).1 = (if 6 < (D ++ (cleanW out l).2).length then 8 else 0)
  | [], out, _ => by rw [cleanW, cleanW]; exact ⟨rfl, rfl⟩
  | w :: r, out, h => by
    rw [cleanW] at h
    rw [cleanW, cleanW]
    split at h
    · rename_i c; rw [if_pos c, if_pos c]; exact cleanW_below D r out h
    · rename_i c; rw [if_neg c, if_neg c]
      split at h
      · rename_i c2; rw [if_pos c2, if_pos c2]
        split at h
        · simp at h
        · rename_i c3
          rw [if_neg c3, if_neg (by intro e; exact c3 (List.append_eq_nil_iff.1 e).2)]
          rw [List.dropLast_append_of_ne_nil c3]
          exact cleanW_below D r _ h
      · rename_i c2; rw [if_neg c2, if_neg c2]
        split at h
        · rename_i c3; rw [if_pos c3, if_pos c3]
          rw [List.append_assoc]
          exact cleanW_below D r _ h
        · simp at h

theorem cleanE_parts {s : List UInt8} (h : cleanE s = 0) : s.head? ≠ some 47 ∧ (cleanW [] (cutL 47 s)).1 = 0 ∧ (cleanW [] (cutL 47 s)).2.all partB = true ∧ (cleanW [] (cutL 47 s)).2.length ≤ 6 ∧ cleanT s = [47].intercalate (cleanW [] (cutL 47 s)).2 := by
  have e : cleanT s = [47].intercalate (cleanW [] (cutL 47 s)).2 := by unfold cleanT; rw [if_pos h]
  unfold cleanE at h
  split at h
  · cases h
  · rename_i h1
    obtain ⟨h2, h3⟩ := cleanW_parts _ [] rfl h
    exact ⟨h1, h, h2, h3, e⟩
theorem head_of_parts {w : List (List UInt8)} (h : w.all partB = true) (t : List UInt8) (hw : w ≠ []) : ([47].intercalate w ++ t).head? ≠ some 47 := by
  cases w with
  | nil => exact absurd rfl hw
  | cons x r =>
    rw [List.all_cons, Bool.and_eq_true] at h
    have hx := part_ne h.1
    have hf := part_free h.1
    cases x with
    | nil => exact absurd rfl hx.1
    | cons b x =>
      have hb : b ≠ 47 := fun e => hf (by simp [e])
      have : ([47].intercalate ((b :: x) :: r) ++ t).head? = some b := by
        cases r with
        | nil => simp [List.intercalate, List.intersperse]
        | cons y r => rw [join_cons]; rfl
      rw [this]; intro e; exact hb (Option.some.inj e)
/-- What is clean stays so. -/
theorem clean_again {s : List UInt8} (h : cleanE s = 0) : cleanE (cleanT s) = 0 ∧ cleanT (cleanT s) = cleanT s ∧ (cleanT s ≠ [] → partsE (cleanT s) = 0 ∧ cutL 47 (cleanT s) = (cleanW [] (cutL 47 s)).2) := by
  obtain ⟨_, _, h3, h4, h5⟩ := cleanE_parts h
  generalize (cleanW [] (cutL 47 s)).2 = out at *
  rw [h5]
  by_cases ho : out = []
  · subst ho
    exact ⟨by decide, by decide, fun h => absurd rfl h⟩
  · have hc := cut_parts ho h3
    have e1 : cleanE ([47].intercalate out) = 0 := by
      unfold cleanE
      rw [if_neg (by have := head_of_parts h3 [] ho; rwa [List.append_nil] at this), hc, cleanW_keep out [] h3]
      show (if 6 < ([] ++ out).length then 8 else 0) = 0
      rw [if_neg (by simpa using h4)]
    refine ⟨e1, ?_, fun _ => ⟨partsE_join ho h3 h4, hc⟩⟩
    unfold cleanT
    rw [if_pos e1, hc, cleanW_keep out [] h3]; rfl

/-! join -/
def joinS (d s : List UInt8) : List UInt8 := if d = [] then s else d ++ 47 :: s
/-- What is joined to a place is in it, if it does not lead up. -/
theorem join_in {d s : List UInt8} (hd : partsE d = 0) (hs : cleanE s = 0) (hc : cleanT s ≠ []) :
    (cleanE (joinS d s) = 0 ∨ cleanE (joinS d s) = 8) ∧ (cleanE (joinS d s) = 0 → cleanE (joinS d (cleanT s)) = 0 ∧ cleanT (joinS d (cleanT s)) = cleanT (joinS d s) ∧ cleanT (joinS d s) = d ++ 47 :: cleanT s ∧ partsE (cleanT (joinS d s)) = 0) := by
  obtain ⟨d1, d2⟩ := partsE_ok hd
  obtain ⟨h1, h2, h3, h4, h5⟩ := cleanE_parts hs
  have hdne : d ≠ [] := by rintro rfl; rw [partsE_nil] at hd; cases hd
  have hcc := (clean_again hs).2.2 hc
  have ej : ∀ t, joinS d t = d ++ 47 :: t := fun t => by unfold joinS; rw [if_neg hdne]
  have hh : ∀ t, (d ++ 47 :: t).head? ≠ some 47 := fun t => by
    have := head_of_parts d1 (47 :: t) (cutL_ne 47 d)
    rwa [cutL_join] at this
  have key : ∀ t, cleanW [] (cutL 47 (d ++ 47 :: t)) = cleanW (cutL 47 d) (cutL 47 t) := fun t => by
    rw [cutL_app]
    have aux : ∀ (l out m : List (List UInt8)), l.all partB = true → cleanW out (l ++ m) = cleanW (out ++ l) m := by
      intro l
      induction l with
      | nil => intro out m _; simp
      | cons x r ih =>
        intro out m hx
        rw [List.all_cons, Bool.and_eq_true] at hx
        obtain ⟨n1, n2, n3⟩ := part_ne hx.1
        rw [List.cons_append, cleanW, if_neg (by rintro (c | c); exact n1 c; exact n2 c), if_neg n3, if_pos hx.1, ih _ _ hx.2, List.append_assoc]
        rfl
    have := aux (cutL 47 d) [] (cutL 47 t) d1
    rwa [List.nil_append] at this
  have b1 := cleanW_below (cutL 47 d) (cutL 47 s) [] (.inl h2)
  rw [List.append_nil] at b1
  obtain ⟨b2, b3⟩ := b1
  have eE : cleanE (joinS d s) = if 6 < (cutL 47 d ++ (cleanW [] (cutL 47 s)).2).length then 8 else 0 := by
    unfold cleanE
    rw [ej, if_neg (hh s), key, b3]
  refine ⟨?_, fun h0 => ?_⟩
  · rw [eE]; split
    · exact .inr rfl
    · exact .inl rfl
  · have hlen : (cutL 47 d ++ (cleanW [] (cutL 47 s)).2).length ≤ 6 := by
      rw [eE] at h0
      split at h0
      · cases h0
      · omega
    generalize hout : (cleanW [] (cutL 47 s)).2 = out at *
    have hone : out ≠ [] := by
      intro e; apply hc; rw [h5, e]; rfl
    have hall : (cutL 47 d ++ out).all partB = true := by rw [List.all_append, d1, h3]; rfl
    have k2 : cleanW [] (cutL 47 (d ++ 47 :: cleanT s)) = (0, cutL 47 d ++ out) := by
      rw [key, hcc.2, cleanW_keep out _ h3, if_neg (by omega)]
    have hd2 : d = [47].intercalate (cutL 47 d) := (cutL_join 47 d).symm
    have jj : [47].intercalate (cutL 47 d ++ out) = d ++ 47 :: cleanT s := by
      have hh2 : [47].intercalate (cutL 47 d ++ out) = [47].intercalate (cutL 47 (d ++ 47 :: cleanT s)) := by
        rw [cutL_app, hcc.2]
      rw [hh2, cutL_join]
    have t1 : cleanT (joinS d s) = d ++ 47 :: cleanT s := by
      unfold cleanT at *
      rw [if_pos h0, ej, key, b2, jj]
    have e2 : cleanE (joinS d (cleanT s)) = 0 := by
      unfold cleanE; rw [ej, if_neg (hh _), k2]
    have t2 : cleanT (joinS d (cleanT s)) = d ++ 47 :: cleanT s := by
      show (if cleanE (joinS d (cleanT s)) = 0 then _ else _) = _
      rw [if_pos e2, ej, k2]; exact jj
    refine ⟨e2, by rw [t2, t1], t1, ?_⟩
    rw [t1, ← jj]
    exact partsE_join (by intro e; exact hone (List.append_eq_nil_iff.1 e).2) hall hlen
end Go.Proofs.YtjebljhhbnfpfaaDoor
