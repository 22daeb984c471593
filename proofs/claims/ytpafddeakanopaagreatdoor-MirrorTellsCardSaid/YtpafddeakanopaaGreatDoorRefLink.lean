/- The reference's BeginError, SwapOf by their contracts. -/
import Derived.Test.YtpafddeakanopaaGreatDoorRefLinkErr
import Derived.Test.YtpafddeakanopaaGreatDoorLinkOf
namespace Go.Proofs.YtpafddeakanopaaGreatDoor
open Go Go.RowKit

set_option maxHeartbeats 1000000 in
set_option maxRecDepth 100000 in
theorem refBeginError_any (s : ByteArray) (w : World) (hs : s.size ≤ 100000) : Calls Tryz.prog 16 #[.string s] w fun e w' => e = .returned (.int .i64 (beginE (bl s))) ∧ Below w.heap.size w w' := by
  have C := Lib.hid (refLinkParts_any s w hs)
  go_enter Tryz.func16, Tryz.ntmps16
  go_wp2_with fail
  refine C.out.mono ?_
  clear C
  rintro e w1 ⟨k, h, p, rfl, HP, hp, hb⟩
  obtain ⟨c, hc⟩ : ∃ c, lkE (bl s) = c := ⟨_, rfl⟩
  rw [hc]
  cases c with
  | succ c =>
    have HX : Hid (beginE (bl s) = c + 1) := by show _ = _; unfold beginE; rw [if_neg (by omega), hc]
    have hpos : (0 : Int) < ((c + 1 : Nat) : Int) := by omega
    clear hc HP
    generalize hn : ((c + 1 : Nat) : Int) = n at hpos
    have HN := Lib.hid hn
    clear hn
    go_wp2_with fail
    go_ret
    exact ⟨by rw [HX.out, HN.out]; rfl, hb⟩
  | zero =>
    have HC := Lib.hid hc
    have HQ : Hid (bl p = lkP (bl s)) := (HP.out hc).2
    rw [show ((0 : Nat) : Int) = 0 from rfl]
    clear hc HP
    by_cases h0 : 0 < p.size
    · have ix : ∀ W : World, (Instr.index 9 (.string p) (.int .i64 ((p.size : Int) - 1))).run Tryz.prog W = .ok (.int .u8 (p[p.size - 1]'(by omega)).toNat) W := index_nat p _ (p.size - 1) (by omega) (by omega)
      by_cases hc : (p[p.size - 1]'(by omega)) = 47
      · have q1 : (((p[p.size - 1]'(by omega)).toNat : Int) == 47) = true := by rw [hc]; rfl
        have HD : Hid (Lib.trimSuffix (lkP (bl s)) [47] = bl (p.extract 0 (p.size - 1))) := by show _ = _; rw [← HQ.out]; exact trim_slash p h0 hc
        have sl := slice_to p ((p.size : Int) - 1) (p.size - 1) (by omega) (by omega)
        have sz : (p.extract 0 (p.size - 1)).size ≤ p.size := by rw [ByteArray.size_extract]; omega
        clear hc HQ
        generalize p.extract 0 (p.size - 1) = d at *
        cases q2 : d.toList.isEmpty with
        | true =>
          have HX := Lib.hid (begin_zero HC.out HD.out q2)
          go_wp2_with fail
          go_ret
          exact ⟨by rw [HX.out]; rfl, hb⟩
        | false =>
          have HX := Lib.hid (begin_path HC.out HD.out q2)
          have C := Lib.hid (refPathError_any d w1 (by omega))
          go_wp2_with fail
          refine C.out.mono ?_
          clear C
          rintro e w2 ⟨rfl, hb2⟩
          go_wp2_with fail
          go_ret
          exact ⟨by rw [HX.out]; rfl, hb.trans (hb2.mono hb.size)⟩
      · have q1 : (((p[p.size - 1]'(by omega)).toNat : Int) == 47) = false := by
          rw [beq_eq_false_iff_ne]; intro h; exact hc (UInt8.toNat_inj.1 (by show _ = 47; omega))
        have HD : Hid (Lib.trimSuffix (lkP (bl s)) [47] = bl p) := by show _ = _; rw [← HQ.out]; exact trim_other p h0 hc
        clear hc HQ
        have q2 : p.toList.isEmpty = false := by
          rw [toList_bl]
          cases h : bl p with
          | nil => have := bl_length p; rw [h] at this; simp at this; omega
          | cons _ _ => rfl
        have HX := Lib.hid (begin_path HC.out HD.out q2)
        have C := Lib.hid (refPathError_any p w1 (by omega))
        go_wp2_with fail
        refine C.out.mono ?_
        clear C
        rintro e w2 ⟨rfl, hb2⟩
        go_wp2_with fail
        go_ret
        exact ⟨by rw [HX.out]; rfl, hb.trans (hb2.mono hb.size)⟩
    · have e : bl p = [] := List.eq_nil_of_length_eq_zero (by rw [bl_length]; omega)
      have HX : Hid (beginE (bl s) = 0) := by
        show _ = _
        unfold beginE
        rw [if_pos HC.out, ← HQ.out, e]; rfl
      have q2 : p.toList.isEmpty = true := by rw [toList_bl, e]; rfl
      clear e
      go_wp2_with fail
      go_ret
      exact ⟨by rw [HX.out]; rfl, hb⟩

/-- What the reference's SwapOf hands back. -/
def RefSwapPost (f t s : ByteArray) (w : World) (e : Ending) (w' : World) : Prop :=
  (∃ x : ByteArray, e = .returned (.tuple #[.string x, .int .i64 (swapE (bl f) (bl t) (bl s))]) ∧ Hid (bl x = swapT (bl f) (bl t) (bl s))) ∧ Below w.heap.size w w'
theorem RefSwapPost.err {f t s : ByteArray} {w w' : World} {c : Nat} {n : Int} (h : Hid (swapE (bl f) (bl t) (bl s) = c + 1)) (hn : Hid (((c + 1 : Nat) : Int) = n)) (hb : Below w.heap.size w w') : RefSwapPost f t s w (.returned (.tuple #[.string ⟨#[]⟩, .int .i64 n])) w' :=
  ⟨⟨⟨#[]⟩, by rw [h.out, hn.out], by show _ = _; unfold swapT; rw [h.out]; rfl⟩, hb⟩
theorem RefSwapPost.ok {f t s x : ByteArray} {w w' : World} (h : Hid (swapE (bl f) (bl t) (bl s) = 0)) (hx : Hid (bl x = swapX (bl f) (bl t) (bl s))) (hb : Below w.heap.size w w') : RefSwapPost f t s w (.returned (.tuple #[.string x, .int .i64 0])) w' :=
  ⟨⟨x, by rw [h.out]; rfl, by show _ = _; unfold swapT; rw [h.out, if_pos rfl]; exact hx.out⟩, hb⟩

set_option maxHeartbeats 1000000 in
set_option maxRecDepth 100000 in
theorem refSwapOf_any (f t s : ByteArray) (w : World) (hf : f.size ≤ 10000) (ht : t.size ≤ 10000) (hs : s.size ≤ 10000) :
    Calls Tryz.prog 24 #[.string f, .string t, .string s] w (RefSwapPost f t s w) := by
  have C := Lib.hid (refBeginError_any f w (by omega))
  go_enter Tryz.func24, Tryz.ntmps24
  go_wp2_with fail
  refine C.out.mono ?_
  clear C
  rintro e w1 ⟨rfl, b1⟩
  obtain ⟨c, hc⟩ : ∃ c, beginE (bl f) = c := ⟨_, rfl⟩
  rw [hc]
  cases c with
  | succ c =>
    have HX : Hid (swapE (bl f) (bl t) (bl s) = c + 1) := by show _ = _; unfold swapE; rw [if_neg (by omega), hc]
    have hpos : (0 : Int) < ((c + 1 : Nat) : Int) := by omega
    have hz : (((c + 1 : Nat) : Int) == 0) = false := by rw [beq_eq_false_iff_ne]; omega
    clear hc
    generalize hn : ((c + 1 : Nat) : Int) = n at hpos hz
    have HN := Lib.hid hn
    clear hn
    go_wp2_with fail
    go_ret2
    exact RefSwapPost.err HX HN b1
  | zero =>
    have H1 := Lib.hid hc
    rw [show ((0 : Nat) : Int) = 0 from rfl]
    clear hc
    have C := Lib.hid (refBeginError_any t w1 (by omega))
    go_wp2_with fail
    refine C.out.mono ?_
    clear C
    rintro e w2 ⟨rfl, hb2⟩
    have b2 := b1.trans (hb2.mono b1.size)
    obtain ⟨c, hc⟩ : ∃ c, beginE (bl t) = c := ⟨_, rfl⟩
    rw [hc]
    cases c with
    | succ c =>
      have HX : Hid (swapE (bl f) (bl t) (bl s) = c + 1) := by show _ = _; unfold swapE; rw [if_pos H1.out, if_neg (by omega), hc]
      have hpos : (0 : Int) < ((c + 1 : Nat) : Int) := by omega
      have hz : (((c + 1 : Nat) : Int) == 0) = false := by rw [beq_eq_false_iff_ne]; omega
      clear hc
      generalize hn : ((c + 1 : Nat) : Int) = n at hpos hz
      have HN := Lib.hid hn
      clear hn
      go_wp2_with fail
      go_ret2
      exact RefSwapPost.err HX HN b2
    | zero =>
      have H2 := Lib.hid hc
      rw [show ((0 : Nat) : Int) = 0 from rfl]
      clear hc
      have C := Lib.hid (refLinkError_any s w2 (by omega))
      go_wp2_with fail
      refine C.out.mono ?_
      clear C
      rintro e w3 ⟨rfl, hb3⟩
      have b3 := b2.trans (hb3.mono b2.size)
      obtain ⟨c, hc⟩ : ∃ c, linkE (bl s) = c := ⟨_, rfl⟩
      rw [hc]
      cases c with
      | succ c =>
        have HX : Hid (swapE (bl f) (bl t) (bl s) = c + 1) := by show _ = _; unfold swapE; rw [if_pos H1.out, if_pos H2.out, if_neg (by omega), hc]
        have hpos : (0 : Int) < ((c + 1 : Nat) : Int) := by omega
        clear hc
        generalize hn : ((c + 1 : Nat) : Int) = n at hpos
        have HN := Lib.hid hn
        clear hn
        go_wp2_with fail
        go_ret2
        exact RefSwapPost.err HX HN b3
      | zero =>
        have H3 := Lib.hid hc
        rw [show ((0 : Nat) : Int) = 0 from rfl]
        clear hc
        go_wp2_with fail
        refine (refBegins_any s f w3).mono ?_
        rintro e w4 ⟨rfl, rfl⟩
        cases hp : Lib.hasPrefix (bl s) (bl f) with
        | false =>
          have HX : Hid (swapE (bl f) (bl t) (bl s) = 5 + 1) := by show _ = _; unfold swapE; rw [if_pos H1.out, if_pos H2.out, if_pos H3.out, hp]; rfl
          clear hp
          go_wp2_with fail
          go_ret2
          exact RefSwapPost.err HX rfl b3
        | true =>
          have hfs : f.size ≤ s.size := by
            have := (List.isPrefixOf_iff_prefix.1 hp).length_le
            rwa [bl_length, bl_length] at this
          have sl := slice_from s (f.size : Int) f.size hfs rfl
          have HX : Hid (bl (t ++ s.extract f.size s.size) = swapX (bl f) (bl t) (bl s)) := by
            show _ = _
            rw [bl_add, blExtract, List.take_of_length_le (by rw [List.length_drop, bl_length]; omega), ← bl_length f]; rfl
          have HY : Hid (swapE (bl f) (bl t) (bl s) = linkE (bl (t ++ s.extract f.size s.size))) := by show _ = _; rw [HX.out]; unfold swapE; rw [if_pos H1.out, if_pos H2.out, if_pos H3.out, hp]; rfl
          have hsz : (t ++ s.extract f.size s.size).size ≤ 20000 := by
            have := congrArg List.length (bl_add t (s.extract f.size s.size))
            rw [List.length_append, bl_length, bl_length, bl_length, ByteArray.size_extract] at this; omega
          clear hp
          have C := Lib.hid (refLinkError_any (t ++ s.extract f.size s.size) w3 (by omega))
          go_wp2_with fail
          refine C.out.mono ?_
          clear C
          rintro e w5 ⟨rfl, hb5⟩
          have b5 := b3.trans (hb5.mono b3.size)
          obtain ⟨c, hc⟩ : ∃ c, linkE (bl (t ++ s.extract f.size s.size)) = c := ⟨_, rfl⟩
          rw [hc]
          cases c with
          | succ c =>
            have HZ : Hid (swapE (bl f) (bl t) (bl s) = c + 1) := by show _ = _; rw [HY.out, hc]
            have hpos : (0 : Int) < ((c + 1 : Nat) : Int) := by omega
            clear hc
            generalize hn : ((c + 1 : Nat) : Int) = n at hpos
            have HN := Lib.hid hn
            clear hn
            go_wp2_with fail
            go_ret2
            exact RefSwapPost.err HZ HN b5
          | zero =>
            have HZ : Hid (swapE (bl f) (bl t) (bl s) = 0) := by show _ = _; rw [HY.out, hc]
            rw [show ((0 : Nat) : Int) = 0 from rfl]
            clear hc
            go_wp2_with fail
            go_ret2
            exact RefSwapPost.ok HZ HX b5
end Go.Proofs.YtpafddeakanopaaGreatDoor
