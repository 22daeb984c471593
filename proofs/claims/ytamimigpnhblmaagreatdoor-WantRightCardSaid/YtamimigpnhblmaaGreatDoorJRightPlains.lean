/- Plain: what is pressed is read as its runs; opened it is what it was. What is right has the sum: in plain Lean. -/
import Derived.Test.YtamimigpnhblmaaGreatDoorJParsed
import Derived.Test.YtamimigpnhblmaaGreatDoorJPlainly
import Derived.Test.YtamimigpnhblmaaGreatDoorJWantPlains
import Derived.Test.YtamimigpnhblmaaGreatDoorJTreePlains
namespace Go.Proofs.YtamimigpnhblmaaGreatDoor
open Go

theorem numGo_digits : ∀ (ds : List UInt8) (r : List UInt8) (k m : Nat), (∀ c ∈ ds, isD c) → k + ds.length ≤ 9 → (0 < k ∨ ∀ c, ds.head? = some c → c.toNat ≠ 48) →
    numGo (ds ++ r) k m = numGo r (k + ds.length) (valD m ds)
  | [], r, k, m, _, _, _ => rfl
  | c :: ds, r, k, m, hd, hk, h0 => by
    have hc := hd c (by simp)
    simp only [List.length_cons] at hk
    have h1 : k < 9 ∧ 48 ≤ c.toNat ∧ c.toNat ≤ 57 ∧ (0 < k ∨ c.toNat ≠ 48) := ⟨by omega, hc.1, hc.2, h0.imp id (fun h => h c rfl)⟩
    rw [List.cons_append]
    show (if _ then _ else _) = _
    rw [if_pos h1, numGo_digits ds r (k + 1) _ (fun x hx => hd x (by simp [hx])) (by omega) (.inl (by omega))]
    simp only [List.length_cons, valD, List.foldl_cons]
    rw [show k + 1 + ds.length = k + (ds.length + 1) by omega]
theorem numGo_stop (c : UInt8) (r : List UInt8) (k m : Nat) (h : ¬ isD c) : numGo (c :: r) k m = (m, k) := by
  show (if _ then _ else _) = _
  rw [if_neg (fun hh => h ⟨hh.2.1, hh.2.2.1⟩)]

theorem numGo_dec (n : Nat) (r : List UInt8) (h0 : 0 < n) (h : n < 1000000000) : numGo (Lib.decDigits n ++ 58 :: r) 0 0 = (n, (Lib.decDigits n).length) := by
  rw [numGo_digits _ _ 0 0 (decDigits_isD n) (by have := decDigits_len_le 8 n h; omega) (.inr (decDigits_head n h0)), numGo_stop _ _ _ _ (by unfold isD; decide), valD_dec]
  simp

theorem parse_runs : ∀ (R : List (Nat × UInt8)) (f p : Nat), (∀ r ∈ R, 0 < r.1 ∧ r.1 < 1000000000) → (R.flatMap runText).length < f → parse f (R.flatMap runText) p = (R, none)
  | [], f + 1, p, _, _ => by simp [parse]
  | (n, c) :: R, f + 1, p, hR, hf => by
    have hr := hR (n, c) (by simp)
    have e : ((n, c) :: R).flatMap runText = Lib.decDigits n ++ 58 :: (c :: R.flatMap runText) := by simp [runText]
    have hn := numGo_dec n (c :: R.flatMap runText) hr.1 hr.2
    have hl : 0 < (Lib.decDigits n).length := List.length_pos_iff.2 (decDigits_ne n)
    rw [e] at hf ⊢
    have ih := parse_runs R f (p + (Lib.decDigits n).length + 2) (fun x hx => hR x (by simp [hx])) (by simp only [List.length_append, List.length_cons] at hf; omega)
    simp only [parse]
    rw [if_neg (by simp), hn]
    simp only
    rw [if_neg (by omega), List.drop_left]
    simp [ih]
theorem runs_press (R : List (Nat × UInt8)) (hR : ∀ r ∈ R, 0 < r.1 ∧ r.1 < 1000000000) : runsL (R.flatMap runText) = (R, none) := parse_runs R _ 0 hR (Nat.lt_succ_self _)

theorem grp_sum : ∀ l, sumR (grp l) = l.length ∧ openR (grp l) = l ∧ ∀ r ∈ grp l, 0 < r.1
  | [] => ⟨rfl, rfl, fun r h => by cases h⟩
  | c :: cs => by
    obtain ⟨h1, h2, h3⟩ := grp_sum cs
    simp only [grp]
    cases h : grp cs with
    | nil =>
      rw [h] at h1 h2
      simp [sumR] at h1
      refine ⟨?_, ?_, ?_⟩
      · simp [sumR, ← h1]
      · simp [openR] at h2 ⊢; exact h2
      · intro r hr; simp at hr; subst hr; exact Nat.one_pos
    | cons q r =>
      obtain ⟨n, d⟩ := q
      rw [h] at h1 h2 h3
      simp only
      split
      · rename_i e
        subst e
        refine ⟨?_, ?_, ?_⟩
        · rw [sumR_cons] at h1 ⊢; simp only [List.length_cons] at *; omega
        · rw [← h2]; simp [openR, List.replicate_succ]
        · intro x hx
          rcases List.mem_cons.1 hx with rfl | hx
          · exact Nat.succ_pos _
          · exact h3 x (by simp [hx])
      · refine ⟨?_, ?_, ?_⟩
        · rw [sumR_cons, h1]; simp only [List.length_cons]; omega
        · conv => rhs; rw [← h2]
          simp [openR]
        · intro x hx
          rcases List.mem_cons.1 hx with rfl | hx
          · exact Nat.one_pos
          · exact h3 x hx
theorem sumR_mem {l : List (Nat × UInt8)} {r : Nat × UInt8} (h : r ∈ l) : r.1 ≤ sumR l := by
  induction l with
  | nil => cases h
  | cons a l ih =>
    rw [sumR_cons]
    rcases List.mem_cons.1 h with rfl | h
    · omega
    · have := ih h; omega
theorem grp_fine (l : List UInt8) (hl : l.length < 1000000000) : ∀ r ∈ grp l, 0 < r.1 ∧ r.1 < 1000000000 := fun r hr =>
  ⟨(grp_sum l).2.2 r hr, by have := sumR_mem hr; have := (grp_sum l).1; omega⟩

/-- What is pressed is read as its runs; two, one behind the other, as both. -/
theorem runs_of_press (l : List UInt8) (hl : l.length < 1000000000) : runsL (pressL l) = (grp l, none) := runs_press _ (grp_fine l hl)
theorem runs_of_two (l m : List UInt8) (hl : l.length < 1000000000) (hm : m.length < 1000000000) : runsL (pressL l ++ pressL m) = (grp l ++ grp m, none) := by
  rw [pressL, pressL, ← List.flatMap_append]
  exact runs_press _ (fun r hr => (List.mem_append.1 hr).elim (grp_fine l hl r) (grp_fine m hm r))
end Go.Proofs.YtamimigpnhblmaaGreatDoor

namespace Go.Proofs.YtamimigpnhblmaaGreatDoor
open Go

theorem wantE_of {w : WantB} (h : WantOk w) : wantE w = 0 := by
  unfold wantE
  rw [if_neg (by rw [h.name]; simp), if_neg (by rw [h.url]; simp), if_neg (by simpa using h.kind), if_neg (by have := h.strip; omega), if_neg (fun e => e.2 (h.plain e.1)), if_neg]
  unfold rightB
  have := h.sum
  simp only [Bool.not_eq_false, Bool.and_eq_true, decide_eq_true_eq]
  exact this
theorem strip_none {l : List FileB} (hl : TreeOk l) : stripTr l 0 = (⟨0, none⟩, l) := by
  unfold stripTr
  rw [if_neg (by rw [hl.er]; simp)]
  have h1 : ∀ f ∈ l, 0 < (cutL 47 (bl f.path)).length := fun f _ => List.length_pos_iff.2 (cutL_ne 47 _)
  have hix : stripIx (0 : Int) l = none := by
    unfold stripIx
    rw [List.findIdx?_eq_none_iff]
    intro f hf
    have := (strip_ok_iff (n := 0) (hl.each f hf).1).2 (h1 f hf)
    simpa using this
  rw [hix]
  simp only
  have hm : l.map (stripF 0) = l := by
    conv => rhs; rw [← List.map_id l]
    refine List.map_congr_left fun f hf => ?_
    show ({ f with path := ⟨(stripT (bl f.path) 0).toArray⟩ } : FileB) = f
    have := (strip_parts (n := 0) (hl.each f hf).1 (h1 f hf)).1
    rw [List.drop_zero, cutL_join] at this
    rw [show stripT (bl f.path) 0 = bl f.path from this, mk_bl]
  rw [hm]
  unfold sortT
  rw [isort_strict hl.strict, if_neg (by rw [hl.strict.dup]; simp), if_neg (by rw [hl.er]; simp)]
theorem treeSum_right (l : List FileB) : 0 ≤ treeSum l ∧ treeSum l < 1000000007 := by
  unfold treeSum
  have h : sumL (packT l) < 1000000007 := sumL_lt (packT l)
  omega
theorem press_open {s : List UInt8} (h : s.length ≤ 20000) : openE (runsL (pressL s)) 20000 = ⟨0, none⟩ ∧ openT (runsL (pressL s)) 20000 = s := by
  obtain ⟨h1, h2, _⟩ := grp_sum s
  rw [runs_of_press s (by omega)]
  have := open_fine (r := (grp s, none)) rfl (most := 20000) (by show ¬ (20000 : Int) < (sumR (grp s) : Int); rw [h1]; omega)
  exact ⟨this.2, this.1.trans h2⟩
/-- What is right: a tree t, packed (or pressed), that strips to l. -/
theorem right_law {w : WantB} {l t : List FileB} {s : ByteArray} (hw : wantE w = 0) (hk : bl w.kind ≠ kPlain) (hs : treeSum l = w.sum) (ht : TreeOk t) (hst : stripTr t w.strip = (⟨0, none⟩, l))
    (hs1 : bl w.kind = kPress → bl s = pressL (packL t)) (hs2 : bl w.kind ≠ kPress → bl s = packL t) (h20 : s.size ≤ 20000) :
    openW w s = (0, l) ∧ rightW w s = (0, l) := by
  have hp := read_pack ((treeOk_iff t).2 ht)
  have hfit := packL_fits ((treeOk_iff t).2 ht)
  have hu : unpackT (packL t) w.strip = (0, l) := by
    unfold unpackT
    rw [hp.1, hp.2, hst]; rfl
  have ho : openW w s = (0, l) := by
    unfold openW
    rw [if_neg (by rw [hw]; simp), if_neg (by omega)]
    by_cases h1 : bl w.kind = kPack
    · rw [if_pos h1, hs2 (by rw [h1]; decide), hu]
    · rw [if_neg h1]
      by_cases h2 : bl w.kind = kPress
      · obtain ⟨e1, e2⟩ := press_open hfit
        rw [if_pos h2, hs1 h2, e1, if_neg (by simp), e2, hu]
      · exfalso
        have := (wantE_zero hw).kind
        unfold wkinds at this
        simp only [List.mem_cons, List.not_mem_nil, or_false] at this
        rcases this with h | h | h
        · exact hk h
        · exact h1 h
        · exact h2 h
  refine ⟨ho, ?_⟩
  unfold rightW
  rw [ho, if_neg (by simp), if_neg (by simpa using hs)]
theorem wrong_law {w : WantB} {l : List FileB} {s : ByteArray} (ho : openW w s = (0, l)) (hs : treeSum l ≠ w.sum) : rightW w s = (12, []) := by
  unfold rightW
  rw [ho, if_neg (by simp), if_pos hs]
/-- What a want is, but for its strip, or its sum. -/
theorem want_strip {w : WantB} (h : wantE w = 0) (hk : bl w.kind ≠ kPlain) (n : Int) (h0 : 0 ≤ n) (h6 : n ≤ 6) : wantE { w with strip := n } = 0 := by
  have k := wantE_zero h
  exact wantE_of ⟨k.name, k.url, k.kind, ⟨h0, h6⟩, fun e => absurd e hk, k.sum⟩
theorem want_sum {w : WantB} (h : wantE w = 0) (m : Int) (h0 : 0 ≤ m) (h6 : m < 1000000007) : wantE { w with sum := m } = 0 := by
  have k := wantE_zero h
  exact wantE_of ⟨k.name, k.url, k.kind, k.strip, k.plain, ⟨h0, h6⟩⟩
/-- The sum does not matter for what is opened. -/
theorem openW_sum {w : WantB} (h : wantE w = 0) (m : Int) (h0 : 0 ≤ m) (h6 : m < 1000000007) (s : ByteArray) : openW { w with sum := m } s = openW w s := by
  unfold openW
  rw [want_sum h m h0 h6, h]
end Go.Proofs.YtamimigpnhblmaaGreatDoor
