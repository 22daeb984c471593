/- The reference's JoinOf, StripOf, IsIn, SameTexts by their contracts. -/
import Derived.Test.YtkplekkldkmdhaaDoorRefClean
import Derived.Test.YtkplekkldkmdhaaDoorRefLink
namespace Go.Proofs.YtkplekkldkmdhaaDoor
open Go Go.RowKit

/-- What the reference's JoinOf hands back. -/
def RefJoinPost (d s : ByteArray) (w : World) (e : Ending) (w' : World) : Prop :=
  (∃ x : ByteArray, e = .returned (.tuple #[.string x, .int .i64 (cleanE (joinS (bl d) (bl s)))]) ∧ Hid (bl x = cleanT (joinS (bl d) (bl s)))) ∧ Below w.heap.size w w'

set_option maxRecDepth 100000 in
theorem refJoinOf_any (d s : ByteArray) (w : World) (hd : d.size ≤ 300) (hs : s.size ≤ 300) :
    Calls Tryd.prog 41 #[.string d, .string s] w (RefJoinPost d s w) := by
  by_cases h : d.toList = []
  · have g : d.toList.isEmpty = true := by rw [h]; rfl
    have HJ : Hid (joinS (bl d) (bl s) = bl s) := by show _ = _; unfold joinS; rw [if_pos (by rw [← toList_bl]; exact h)]
    have C := Lib.hid (refCleanOf_any s w (by omega))
    clear h
    go_enter Tryd.func41, Tryd.ntmps41
    go_wp2_with fail
    refine C.out.mono ?_
    clear C
    rintro e w1 ⟨⟨x, rfl, HX⟩, hb⟩
    go_wp2_with fail
    go_ret2
    exact ⟨⟨x, by rw [HJ.out]; rfl, by show _ = _; rw [HJ.out]; exact HX.out⟩, hb⟩
  · have g : d.toList.isEmpty = false := by
      cases h2 : d.toList with
      | nil => exact absurd h2 h
      | cons _ _ => rfl
    have HJ : Hid (joinS (bl d) (bl s) = bl (d ++ ⟨#[47]⟩ ++ s)) := by
      show _ = _
      unfold joinS; rw [if_neg (by rw [← toList_bl]; exact h), blAdd, blAdd, List.append_assoc]; rfl
    have hsz : (d ++ ⟨#[47]⟩ ++ s).size ≤ 1000 := by
      have e1 := congrArg List.length (blAdd (d ++ ⟨#[47]⟩) s)
      have e2 := congrArg List.length (blAdd d ⟨#[47]⟩)
      rw [List.length_append, bl_length, bl_length, bl_length] at e1 e2
      have e : (⟨#[47]⟩ : ByteArray).size = 1 := rfl
      omega
    have C := Lib.hid (refCleanOf_any (d ++ ⟨#[47]⟩ ++ s) w hsz)
    clear h
    go_enter Tryd.func41, Tryd.ntmps41
    go_wp2_with fail
    refine C.out.mono ?_
    clear C
    rintro e w1 ⟨⟨x, rfl, HX⟩, hb⟩
    go_wp2_with fail
    go_ret2
    exact ⟨⟨x, by rw [HJ.out]; rfl, by show _ = _; rw [HJ.out]; exact HX.out⟩, hb⟩

set_option maxHeartbeats 400000 in
set_option maxRecDepth 100000 in
theorem refIsIn_any (s d : ByteArray) (w : World) (hs : s.size ≤ 1000) (hd : d.size ≤ 1000) :
    Calls Tryd.prog 43 #[.string s, .string d] w fun e w' => e = .returned (.bool (inB (bl s) (bl d))) ∧ Below w.heap.size w w' := by
  have C := Lib.hid (refPathError_any s w (by omega))
  have HB := Lib.hid (fun w' => refBegins_any s (d ++ ⟨#[47]⟩) w')
  have HD : Hid (Lib.hasPrefix (bl s) (bl (d ++ ⟨#[47]⟩)) = Lib.hasPrefix (bl s) (bl d ++ [47])) := by show _ = _; rw [blAdd]; rfl
  go_enter Tryd.func43, Tryd.ntmps43
  go_wp2_with fail
  refine C.out.mono ?_
  clear C
  rintro e w1 ⟨rfl, hb⟩
  cases hc : partsE (bl s) with
  | succ c =>
    have HX : Hid (inB (bl s) (bl d) = false) := by show _ = _; unfold inB; rw [hc]; rfl
    have hpos : (0 : Int) < ((c + 1 : Nat) : Int) := by omega
    clear hc
    generalize ((c + 1 : Nat) : Int) = n at hpos
    go_wp2_with fail
    go_ret
    exact ⟨by rw [HX.out]; rfl, hb⟩
  | zero =>
    rw [show ((0 : Nat) : Int) = 0 from rfl]
    cases g : d.toList.isEmpty with
    | true =>
      have HX : Hid (inB (bl s) (bl d) = true) := by show _ = _; unfold inB; rw [hc, decide_eq_true (show bl d = [] by rw [← toList_bl]; exact List.isEmpty_iff.1 g)]; rfl
      clear hc
      go_wp2_with fail
      go_ret
      exact ⟨by rw [HX.out]; rfl, hb⟩
    | false =>
      have HX : Hid (inB (bl s) (bl d) = (decide (partsE (bl d) = 0) && Lib.hasPrefix (bl s) (bl d ++ [47]))) := by
        show _ = _; unfold inB; rw [hc, decide_eq_false (show ¬ bl d = [] by rw [← toList_bl]; intro h; rw [h] at g; cases g)]; rfl
      clear hc
      have C := Lib.hid (refPathError_any d w1 (by omega))
      go_wp2_with fail
      refine C.out.mono ?_
      clear C
      rintro e w2 ⟨rfl, hb2⟩
      cases hc : partsE (bl d) with
      | succ c =>
        have HY : Hid (inB (bl s) (bl d) = false) := by show _ = _; rw [HX.out, hc]; rfl
        have hz : (((c + 1 : Nat) : Int) == 0) = false := by rw [beq_eq_false_iff_ne]; omega
        clear hc
        generalize ((c + 1 : Nat) : Int) = n at hz
        go_wp2_with fail
        go_ret
        exact ⟨by rw [HY.out]; rfl, hb.trans (hb2.mono hb.size)⟩
      | zero =>
        rw [show ((0 : Nat) : Int) = 0 from rfl]
        have HY : Hid (inB (bl s) (bl d) = Lib.hasPrefix (bl s) (bl d ++ [47])) := by show _ = _; rw [HX.out, hc]; rfl
        clear hc
        go_wp2_with fail
        refine (HB.out w2).mono ?_
        rintro e w3 ⟨rfl, rfl⟩
        rw [HD.out]
        go_wp2_with fail
        go_ret
        exact ⟨by rw [HY.out]; rfl, hb.trans (hb2.mono hb.size)⟩

/-- What the reference's StripOf hands back. -/
def RefStripPost (s : ByteArray) (n : Int) (w : World) (e : Ending) (w' : World) : Prop :=
  (∃ x : ByteArray, e = .returned (.tuple #[.string x, .int .i64 (stripE (bl s) n)]) ∧ Hid (bl x = stripT (bl s) n)) ∧ Below w.heap.size w w'
theorem RefStripPost.err {s : ByteArray} {n : Int} {w w' : World} {m : Int} (h : Hid ((stripE (bl s) n : Int) = m)) (h0 : m ≠ 0) (hb : Below w.heap.size w w') : RefStripPost s n w (.returned (.tuple #[.string ⟨#[]⟩, .int .i64 m])) w' :=
  ⟨⟨⟨#[]⟩, by rw [h.out], by show _ = _; unfold stripT; rw [if_neg (by intro e; have := h.out; rw [e] at this; exact h0 this.symm)]; rfl⟩, hb⟩

set_option maxHeartbeats 400000 in
set_option maxRecDepth 100000 in
theorem refStripOf_any (s : ByteArray) (n : Int) (w : World) (hs : s.size ≤ 900) (hn : (Lit.int .i64 n).wf = true) :
    Calls Tryd.prog 42 #[.string s, .int .i64 n] w (RefStripPost s n w) := by
  have C := Lib.hid (refPartsOf_any s w (by omega))
  go_enter Tryd.func42, Tryd.ntmps42
  go_wp2_with fail
  refine C.out.mono ?_
  clear C
  rintro e w1 ⟨v, zs, rfl, HR, HZ, hl, hb⟩
  cases hc : partsE (bl s) with
  | succ c =>
    have HX : Hid ((stripE (bl s) n : Int) = ((c + 1 : Nat) : Int)) := by show _ = _; unfold stripE; rw [if_neg (by omega), hc]
    have hpos : (0 : Int) < ((c + 1 : Nat) : Int) := by omega
    clear hc HZ
    generalize ((c + 1 : Nat) : Int) = m at hpos HX
    go_wp2_with fail
    go_ret2
    exact RefStripPost.err HX (by omega) hb
  | zero =>
    rw [show ((0 : Nat) : Int) = 0 from rfl]
    have HZ2 : Hid (zs.map bl = cutL 47 (bl s)) := by show _ = _; rw [HZ.out, if_pos hc]
    have HL : Hid ((cutL 47 (bl s)).length = zs.length) := by show _ = _; rw [← HZ2.out, List.length_map]
    have HC := Lib.hid hc
    have HS : Hid (∀ z ∈ zs, z.size ≤ s.size) := fun z hz => by
      have h : bl z ∈ cutL 47 (bl s) := by rw [← HZ2.out]; exact List.mem_map.2 ⟨z, hz, rfl⟩
      have := cutL_size 47 (bl s) _ h
      rwa [bl_length, bl_length] at this
    clear hc HZ
    have r9 := HR.out
    obtain ⟨ao, cap, rfl, h1, h2, H3⟩ := r9.parts
    by_cases h0 : n < 0
    · have HX : Hid ((stripE (bl s) n : Int) = 2) := by show _ = _; unfold stripE; rw [if_pos HC.out, if_pos h0]; rfl
      clear H3 r9
      go_wp2_with fail
      go_ret2
      exact RefStripPost.err HX (by decide) hb
    · by_cases h3 : (zs.length : Int) ≤ n
      · have HX : Hid ((stripE (bl s) n : Int) = 3) := by show _ = _; unfold stripE; rw [if_pos HC.out, if_neg h0, HL.out, if_pos h3]; rfl
        clear H3 r9
        go_wp2_with fail
        go_ret2
        exact RefStripPost.err HX (by decide) hb
      · obtain ⟨k, rfl⟩ : ∃ k : Nat, n = k := ⟨n.toNat, by omega⟩
        have hk : k < zs.length := by omega
        have HX : Hid (stripE (bl s) (k : Int) = 0) := by show _ = _; unfold stripE; rw [if_pos HC.out, if_neg h0, HL.out, if_neg h3]
        obtain ⟨b, off, rfl, hbl, hcell⟩ := H3 k hk
        have hrow : ∀ o, o = off + k → ∀ m, m = zs.length - k → ∀ c, m ≤ c → c ≤ maxLen → Row encStr 1 w1 (.slice (some ⟨b, o, none⟩) m c) (zs.drop k) := fun o ho m hm c hc hc2 => by
          subst ho hm
          have hl2 : (zs.drop k).length = zs.length - k := List.length_drop
          refine .inr ⟨b, off + k, c, by rw [hl2], by rw [hl2]; exact hc, hc2, hbl, fun i hi j hj => ?_⟩
          obtain rfl : j = 0 := by omega
          rw [hl2] at hi
          have := hcell (k + i) (by omega)
          simp only [Nat.mul_one, Nat.add_zero, List.getElem_drop]
          rw [Nat.add_assoc, this]; rfl
        have C := Lib.hid (fun o ho m hm c hc hc2 => glue_any (hrow o ho m hm c hc hc2) (by rw [List.length_drop]; omega) (fun z hz => by have := HS.out z (List.mem_of_mem_drop hz); omega))
        clear hrow hcell H3 r9
        have hcm : cap ≤ 9223372036854775807 := by rw [maxLen_eq] at h2; exact h2
        go_wp2_with fail
        refine (C.out _ rfl _ rfl _ (by omega) (by rw [maxLen_eq]; omega)).mono ?_
        clear C
        rintro e w2 ⟨⟨x, rfl, HJ⟩, rfl⟩
        go_wp2_with fail
        go_ret2
        refine ⟨⟨x, by rw [HX.out]; rfl, ?_⟩, hb⟩
        show _ = _
        unfold stripT
        rw [HX.out, if_pos rfl, HJ.out, List.map_drop, HZ2.out]; rfl

set_option maxHeartbeats 400000 in
set_option maxRecDepth 100000 in
/-- SameTexts of two rows that read alike. -/
theorem sameTexts_same {w : World} {v u : Value} {xs ys : List ByteArray} (hv : Row encStr 1 w v xs) (hu : Row encStr 1 w u ys) (he : xs.map bl = ys.map bl) (hn : xs.length ≤ 1000000) :
    Calls Tryd.prog 20 #[v, u] w fun e w' => e = .returned (.bool true) ∧ Below w.heap.size w w' := by
  obtain rfl : xs = ys := by
    have inj : ∀ (a b : List ByteArray), a.map bl = b.map bl → a = b := by
      intro a
      induction a with
      | nil => intro b h; cases b with | nil => rfl | cons _ _ => cases h
      | cons x a ih =>
        intro b h
        cases b with
        | nil => cases h
        | cons y b =>
          rw [List.map_cons, List.map_cons] at h
          injection h with h1 h2
          rw [blInj h1, ih b h2]
    exact inj xs ys he
  obtain ⟨ao, cap, rfl, h1, h2, H3⟩ := hv.parts
  obtain ⟨ao2, cap2, rfl, h4, h5, H6⟩ := hu.parts
  have HM := Lib.hid H3
  have HN := Lib.hid H6
  clear H3 H6 hv hu he
  go_enter Tryd.func20, Tryd.ntmps20
  go_wp2_with fail
  go_loopw [5] (fun i w1 => ∃ k : Nat, k ≤ xs.length ∧ i = .int .i64 k ∧ Below w.heap.size w w1) (fun i _ => xs.length - (intOf i).toNat)
  case atStart => exact ⟨0, Nat.zero_le _, rfl, Below.refl _ _⟩
  case round =>
    obtain ⟨k, hk, rfl, hb⟩ := hrel
    by_cases hlt : k < xs.length
    · obtain ⟨b, off, rfl, hbl, hcell⟩ := HM.out k hlt
      obtain ⟨b2, off2, rfl, hbl2, hcell2⟩ := HN.out k hlt
      have c1 := hcell k hlt
      have c2 := hcell2 k hlt
      rw [← hb.cell (p := ⟨b, off + k, none⟩) hbl] at c1
      rw [← hb.cell (p := ⟨b2, off2 + k, none⟩) hbl2] at c2
      clear hcell hcell2
      have q : (xs[k].toList == xs[k].toList) = true := beq_iff_eq.2 rfl
      generalize xs[k] = z at c1 c2 q
      go_wp2_with fail
      go_quiet (fail)
      go_wp2_with fail
      go_roundw
      case rel => exact ⟨k + 1, by omega, by go_num, hb.trans ((below_drewN _ _ _).mono hb.size)⟩
      case measure => simp [intOf]; omega
    · obtain rfl : k = xs.length := by omega
      go_wp2_with fail
      go_ret
      exact ⟨rfl, hb⟩
end Go.Proofs.YtkplekkldkmdhaaDoor
