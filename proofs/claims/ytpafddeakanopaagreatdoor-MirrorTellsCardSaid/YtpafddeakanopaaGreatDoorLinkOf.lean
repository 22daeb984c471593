/- package link: Check, Begins, Host, Swap by their contracts. -/
import Derived.Test.YtpafddeakanopaaGreatDoorLink
namespace Go.Proofs.YtpafddeakanopaaGreatDoor
open Go Go.RowKit

set_option maxRecDepth 100000 in
theorem linkCheck_any {E : Nat → Addr} (s : ByteArray) (w : World) (hs : s.size ≤ 1000000) (hE : LEnv E w) :
    Calls Tryz.prog 18 #[.string s] w fun e w' => e = .returned (errV E (linkE (bl s))) ∧ Below w.heap.size w w' := by
  have C := Lib.hid (linkParts_any s w hs hE)
  have HE := Lib.hid hE
  clear hE
  go_enter Tryz.func18, Tryz.ntmps18
  go_wp2_with fail
  refine C.out.mono ?_
  clear C
  rintro e w1 ⟨⟨k, h, p, rfl, HH, HP, hh, hp⟩, hb⟩
  cases hc : lkE (bl s) with
  | succ c =>
    have HX : Hid (linkE (bl s) = c + 1) := by show _ = _; unfold linkE; rw [if_neg (by omega), hc]
    rw [show errV E (c + 1) = sentV E c from rfl]
    clear hc
    go_wp2_with fail
    go_ret
    exact ⟨by rw [HX.out]; rfl, hb⟩
  | zero =>
    have HX : Hid (linkE (bl s) = partsE (bl p)) := by show _ = _; unfold linkE; rw [if_pos hc, HP.out]
    rw [show errV E 0 = .nilIface from rfl]
    have C := Lib.hid (pathCheck_any p w1 (by omega) (HE.out.ext hb).path)
    clear hc
    go_wp2_with fail
    refine C.out.mono ?_
    rintro e w2 ⟨rfl, hb2⟩
    clear C
    go_wp2_with fail
    go_ret
    exact ⟨by rw [HX.out]; rfl, hb.trans (hb2.mono hb.size)⟩

theorem trimSlash_any (p : ByteArray) (w : World) (hp : p.size ≤ 1000000) : Calls Tryz.prog 42 #[.string p, .string ⟨#[47]⟩] w fun e w' =>
    (∃ d : ByteArray, e = .returned (.string d) ∧ Hid (bl d = Lib.trimSuffix (bl p) [47]) ∧ d.size ≤ p.size) ∧ w' = w := by
  refine (Tryz.strings_TrimSuffix p ⟨#[47]⟩ w (by omega)).mono ?_
  rintro e w' ⟨rfl, rfl⟩
  refine ⟨⟨_, rfl, rfl, ?_⟩, rfl⟩
  rw [← bl_length, ← bl_length]
  show (Lib.trimSuffix (bl p) [47]).length ≤ (bl p).length
  unfold Lib.trimSuffix
  split
  · simp
  · exact Nat.le_refl _

set_option maxRecDepth 100000 in
theorem linkBegins_any {E : Nat → Addr} (s : ByteArray) (w : World) (hs : s.size ≤ 1000000) (hE : LEnv E w) :
    Calls Tryz.prog 28 #[.string s] w fun e w' => e = .returned (errV E (beginE (bl s))) ∧ Below w.heap.size w w' := by
  have C := Lib.hid (linkParts_any s w hs hE)
  have HE := Lib.hid hE
  clear hE
  go_enter Tryz.func28, Tryz.ntmps28
  go_wp2_with fail
  refine C.out.mono ?_
  clear C
  rintro e w1 ⟨⟨k, h, p, rfl, HH, HP, hh, hp⟩, hb⟩
  cases hc : lkE (bl s) with
  | succ c =>
    have HX : Hid (beginE (bl s) = c + 1) := by show _ = _; unfold beginE; rw [if_neg (by omega), hc]
    rw [show errV E (c + 1) = sentV E c from rfl]
    clear hc
    go_wp2_with fail
    go_ret
    exact ⟨by rw [HX.out]; rfl, hb⟩
  | zero =>
    have HX := Lib.hid (show beginE (bl s) = if Lib.trimSuffix (lkP (bl s)) [47] = [] then 0 else partsE (Lib.trimSuffix (lkP (bl s)) [47]) by unfold beginE; rw [if_pos hc])
    rw [show errV E 0 = .nilIface from rfl]
    clear hc
    go_wp2_with fail
    refine (trimSlash_any p w1 (by omega)).mono ?_
    rintro e w2 ⟨⟨d, rfl, HD, hd⟩, rfl⟩
    have HY : Hid (beginE (bl s) = if bl d = [] then 0 else partsE (bl d)) := by show _ = _; rw [HX.out, HD.out, HP.out]
    clear HX HD HP
    have he : d.toList.isEmpty = (bl d).isEmpty := by rw [toList_bl]
    cases q : d.toList.isEmpty with
    | true =>
      have HZ : Hid (beginE (bl s) = 0) := by show _ = _; rw [HY.out, if_pos (List.isEmpty_iff.1 (by rw [← he]; exact q))]
      clear HY he
      go_wp2_with fail
      go_ret
      exact ⟨by rw [HZ.out]; rfl, hb⟩
    | false =>
      have HZ : Hid (beginE (bl s) = partsE (bl d)) := by show _ = _; rw [HY.out, if_neg (by intro h; rw [he, h] at q; cases q)]
      clear HY he
      have C := Lib.hid (pathCheck_any d w2 (by omega) (HE.out.ext hb).path)
      go_wp2_with fail
      refine C.out.mono ?_
      rintro e w3 ⟨rfl, hb2⟩
      clear C
      go_wp2_with fail
      go_ret
      exact ⟨by rw [HZ.out]; rfl, hb.trans (hb2.mono hb.size)⟩

/-- What link.Host hands back. -/
def HostPost (E : Nat → Addr) (s : ByteArray) (w : World) (e : Ending) (w' : World) : Prop :=
  (∃ h : ByteArray, e = .returned (.tuple #[.string h, errV E (linkE (bl s))]) ∧ Hid (bl h = if linkE (bl s) = 0 then lkH (bl s) else [])) ∧ Below w.heap.size w w'

theorem cutPre_any (s p : ByteArray) (w : World) : Calls Tryz.prog 34 #[.string s, .string p] w fun e w' =>
    (∃ d : ByteArray, e = .returned (.tuple #[.string d, .bool (Lib.hasPrefix (bl s) (bl p))]) ∧ Hid (Lib.hasPrefix (bl s) (bl p) = true → bl d = (bl s).drop (bl p).length) ∧ d.size ≤ s.size) ∧ w' = w := by
  refine (Tryz.strings_CutPrefix s p w).mono ?_
  rintro e w' ⟨rfl, rfl⟩
  refine ⟨⟨_, rfl, ?_, ?_⟩, rfl⟩
  · intro h
    show Lib.trimPrefix (bl s) (bl p) = _
    unfold Lib.trimPrefix; rw [if_pos h]
  · rw [← bl_length, ← bl_length]
    show (Lib.trimPrefix (bl s) (bl p)).length ≤ (bl s).length
    unfold Lib.trimPrefix
    split
    · simp
    · exact Nat.le_refl _

/-- What link.Swap hands back. -/
def SwapPost (E : Nat → Addr) (f t s : ByteArray) (w : World) (e : Ending) (w' : World) : Prop :=
  (∃ x : ByteArray, e = .returned (.tuple #[.string x, errV E (swapE (bl f) (bl t) (bl s))]) ∧ Hid (bl x = swapT (bl f) (bl t) (bl s))) ∧ Below w.heap.size w w'

theorem SwapPost.err {E : Nat → Addr} {f t s : ByteArray} {w w' : World} {c : Nat} (h : Hid (swapE (bl f) (bl t) (bl s) = c + 1)) (hb : Below w.heap.size w w') : SwapPost E f t s w (.returned (.tuple #[.string ⟨#[]⟩, sentV E c])) w' :=
  ⟨⟨⟨#[]⟩, by rw [h.out]; rfl, by show _ = _; unfold swapT; rw [h.out]; rfl⟩, hb⟩
theorem SwapPost.ok {E : Nat → Addr} {f t s x : ByteArray} {w w' : World} (h : Hid (swapE (bl f) (bl t) (bl s) = 0)) (hx : Hid (bl x = swapX (bl f) (bl t) (bl s))) (hb : Below w.heap.size w w') : SwapPost E f t s w (.returned (.tuple #[.string x, .nilIface])) w' :=
  ⟨⟨x, by rw [h.out]; rfl, by show _ = _; unfold swapT; rw [h.out, if_pos rfl]; exact hx.out⟩, hb⟩
theorem bl_add (a b : ByteArray) : bl (a ++ b) = bl a ++ bl b := by
  show (a ++ b).data.toList = a.data.toList ++ b.data.toList
  rw [ByteArray.data_append, Array.toList_append]

set_option maxHeartbeats 1000000 in
set_option maxRecDepth 100000 in
theorem swap_any {E : Nat → Addr} (f t s : ByteArray) (w : World) (hf : f.size ≤ 100000) (ht : t.size ≤ 100000) (hs : s.size ≤ 100000) (hE : LEnv E w) :
    Calls Tryz.prog 20 #[.string f, .string t, .string s] w (SwapPost E f t s w) := by
  have HE := Lib.hid hE
  clear hE
  go_enter Tryz.func20, Tryz.ntmps20
  go_wp2_with fail
  refine wp_loop_rounds 3 ?_
  rw [rounds_succ]
  go_wp2_with fail
  have b0 : Below w.heap.size w (w.alloc (.cells #[.string f, .string t] 9)) := (Below.refl _ w).alloc (Nat.le_refl _) _
  have k1 : (w.alloc (.cells #[.string f, .string t] 9)).cell? ⟨w.heap.size, 1, none⟩ = some (.string t) := by rw [World.cell?_alloc_at _ _ _ _ rfl]; rfl
  have kb : w.heap.size < (w.alloc (.cells #[.string f, .string t] 9)).heap.size := by simp
  generalize hW : w.alloc (.cells #[.string f, .string t] 9) = W at *
  clear hW
  have C := Lib.hid (linkBegins_any f W (by omega) (HE.out.ext b0))
  refine C.out.mono ?_
  clear C
  rintro e w1 ⟨rfl, hb1⟩
  have b1 := b0.trans (hb1.mono b0.size)
  have k2 := (hb1.cell (p := ⟨w.heap.size, 1, none⟩) kb).trans k1
  clear k1 kb
  obtain ⟨c, hc⟩ : ∃ c, beginE (bl f) = c := ⟨_, rfl⟩
  rw [hc]
  cases c with
  | succ c =>
    have HX : Hid (swapE (bl f) (bl t) (bl s) = c + 1) := by show _ = _; unfold swapE; rw [if_neg (by omega), hc]
    rw [show errV E (c + 1) = sentV E c from rfl]
    clear hc k2
    go_wp2_with fail
    go_ret2
    exact SwapPost.err HX b1
  | zero =>
    have H1 := Lib.hid hc
    rw [show errV E 0 = .nilIface from rfl]
    clear hc
    go_wp2_with fail
    rw [rounds_succ]
    go_wp2_with fail
    clear k2
    have C := Lib.hid (linkBegins_any t w1 (by omega) (HE.out.ext b1))
    refine C.out.mono ?_
    clear C
    rintro e w2 ⟨rfl, hb2⟩
    have b2 := b1.trans (hb2.mono b1.size)
    obtain ⟨c, hc⟩ : ∃ c, beginE (bl t) = c := ⟨_, rfl⟩
    rw [hc]
    cases c with
    | succ c =>
      have HX : Hid (swapE (bl f) (bl t) (bl s) = c + 1) := by show _ = _; unfold swapE; rw [if_pos H1.out, if_neg (by omega), hc]
      rw [show errV E (c + 1) = sentV E c from rfl]
      clear hc
      go_wp2_with fail
      go_ret2
      exact SwapPost.err HX b2
    | zero =>
      have H2 := Lib.hid hc
      rw [show errV E 0 = .nilIface from rfl]
      clear hc
      go_wp2_with fail
      rw [rounds_succ]
      go_wp2_with fail
      have C := Lib.hid (linkCheck_any s w2 (by omega) (HE.out.ext b2))
      refine C.out.mono ?_
      clear C
      rintro e w3 ⟨rfl, hb3⟩
      have b3 := b2.trans (hb3.mono b2.size)
      obtain ⟨c, hc⟩ : ∃ c, linkE (bl s) = c := ⟨_, rfl⟩
      rw [hc]
      cases c with
      | succ c =>
        have HX : Hid (swapE (bl f) (bl t) (bl s) = c + 1) := by show _ = _; unfold swapE; rw [if_pos H1.out, if_pos H2.out, if_neg (by omega), hc]
        rw [show errV E (c + 1) = sentV E c from rfl]
        clear hc
        go_wp2_with fail
        go_ret2
        exact SwapPost.err HX b3
      | zero =>
        have H3 := Lib.hid hc
        rw [show errV E 0 = .nilIface from rfl]
        clear hc
        go_wp2_with fail
        refine (cutPre_any s f w3).mono ?_
        rintro e w4 ⟨⟨d, rfl, HD, hd⟩, rfl⟩
        cases hp : Lib.hasPrefix (bl s) (bl f) with
        | false =>
          have HX : Hid (swapE (bl f) (bl t) (bl s) = 5 + 1) := by show _ = _; unfold swapE; rw [if_pos H1.out, if_pos H2.out, if_pos H3.out, hp]; rfl
          have c1 := (HE.out.ext b3).eNone
          clear HD hp
          go_wp2_with fail
          go_quiet (fail)
          go_wp2_with fail
          go_ret2
          exact SwapPost.err HX (b3.trans ((below_drewN _ _ _).mono b3.size))
        | true =>
          have HX : Hid (bl (t ++ d) = swapX (bl f) (bl t) (bl s)) := by show _ = _; rw [bl_add, HD.out hp]; rfl
          have HY : Hid (swapE (bl f) (bl t) (bl s) = linkE (bl (t ++ d))) := by show _ = _; rw [HX.out]; unfold swapE; rw [if_pos H1.out, if_pos H2.out, if_pos H3.out, hp]; rfl
          have hsz : (t ++ d).size ≤ 200000 := by have := congrArg List.length (bl_add t d); rw [List.length_append, bl_length, bl_length, bl_length] at this; omega
          clear HD hp
          go_wp2_with fail
          have C := Lib.hid (linkCheck_any (t ++ d) w4 (by omega) (HE.out.ext b3))
          refine C.out.mono ?_
          clear C
          rintro e w5 ⟨rfl, hb5⟩
          have b5 := b3.trans (hb5.mono b3.size)
          obtain ⟨c, hc⟩ : ∃ c, linkE (bl (t ++ d)) = c := ⟨_, rfl⟩
          rw [hc]
          cases c with
          | succ c =>
            have HZ : Hid (swapE (bl f) (bl t) (bl s) = c + 1) := by show _ = _; rw [HY.out, hc]
            rw [show errV E (c + 1) = sentV E c from rfl]
            clear hc
            go_wp2_with fail
            go_ret2
            exact SwapPost.err HZ b5
          | zero =>
            have HZ : Hid (swapE (bl f) (bl t) (bl s) = 0) := by show _ = _; rw [HY.out, hc]
            rw [show errV E 0 = .nilIface from rfl]
            clear hc
            go_wp2_with fail
            go_ret2
            exact SwapPost.ok HZ HX b5
end Go.Proofs.YtpafddeakanopaaGreatDoor
