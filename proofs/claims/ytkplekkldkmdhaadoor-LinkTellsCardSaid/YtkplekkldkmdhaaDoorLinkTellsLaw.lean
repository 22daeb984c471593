/- chandlerylaw2.LinkTells: the walk. -/
import Derived.Test.YtkplekkldkmdhaaDoorRefLink
import Derived.Test.YtkplekkldkmdhaaDoorCodedTwo
namespace Go.Proofs.YtkplekkldkmdhaaDoor
open Go Go.RowKit

theorem cut_eq {l sep : List UInt8} (h : (Lib.cut l sep).2.2 = true) : l = (Lib.cut l sep).1 ++ (sep ++ (Lib.cut l sep).2.1) := by
  rcases Lib.index_spec l sep with ⟨h1, _⟩ | ⟨i, h1, _, h3, _⟩
  · unfold Lib.cut at h; rw [h1] at h; simp at h
  · obtain ⟨r, hr⟩ := List.isPrefixOf_iff_prefix.1 h3
    have e : Lib.cut l sep = (l.take i, l.drop (i + sep.length), true) := by
      unfold Lib.cut
      rw [h1, if_pos (by omega)]
      simp
    rw [e]
    show l = l.take i ++ (sep ++ l.drop (i + sep.length))
    have : l.drop (i + sep.length) = r := by rw [← List.drop_drop, ← hr, List.drop_left]
    rw [this, hr, List.take_append_drop]
theorem link_split {l : List UInt8} (h : lkE l = 0) : ∃ a, l = a ++ 47 :: lkP l := by
  unfold lkE at h
  split at h
  · cases h
  · rename_i h1
    have h2 : lkIs l = true := by cases hq : lkIs l; simp [hq] at h1; rfl
    have h3 : lkAlso l = true := by cases hq : lkAlso l; simp [hq] at h1; rfl
    have e1 := cut_eq h2
    have e2 := cut_eq h3
    refine ⟨lkK l ++ (sepL ++ lkH l), ?_⟩
    conv => lhs; rw [e1]
    show lkK l ++ (sepL ++ lkR l) = _
    conv => lhs; rw [show lkR l = lkH l ++ ([47] ++ lkP l) from e2]
    simp
theorem lastP_link {l : List UInt8} (h : lkE l = 0) : (47 : UInt8) ∈ l ∧ lastP l = lastP (lkP l) := by
  obtain ⟨a, ha⟩ := link_split h
  refine ⟨by rw [ha]; simp, ?_⟩
  conv => lhs; rw [ha]
  exact lastP_app a _

/-- What link.Last hands back. -/
def LastPost (E : Nat → Addr) (s : ByteArray) (w : World) (e : Ending) (w' : World) : Prop :=
  (∃ x : ByteArray, e = .returned (.tuple #[.string x, errV E (linkE (bl s))]) ∧ Hid (bl x = if linkE (bl s) = 0 then lastP (bl s) else [])) ∧ Below w.heap.size w w'
theorem linkE_parts {l : List UInt8} (h : linkE l = 0) : lkE l = 0 := by
  unfold linkE at h
  split at h
  · assumption
  · rename_i h2; exact absurd h h2

set_option maxRecDepth 100000 in
theorem linkLast_any {E : Nat → Addr} (s : ByteArray) (w : World) (hs : s.size ≤ 100000) (hE : LEnv E w) :
    Calls Tryd.prog 49 #[.string s] w (LastPost E s w) := by
  have C := Lib.hid (linkCheck_any s w (by omega) hE)
  go_enter Tryd.func49, Tryd.ntmps49
  clear hE
  go_wp2_with fail
  refine C.out.mono ?_
  clear C
  rintro e w1 ⟨rfl, hb⟩
  obtain ⟨c, hc⟩ : ∃ c, linkE (bl s) = c := ⟨_, rfl⟩
  rw [hc]
  have HC := Lib.hid hc
  cases c with
  | succ c =>
    rw [show errV E (c + 1) = sentV E c from rfl]
    clear hc
    go_wp2_with fail
    go_ret2
    exact ⟨⟨⟨#[]⟩, by rw [HC.out]; rfl, by show _ = _; rw [HC.out]; rfl⟩, hb⟩
  | zero =>
    rw [show errV E 0 = .nilIface from rfl]
    obtain ⟨hm, _⟩ := lastP_link (linkE_parts hc)
    obtain ⟨k, hk, hks, hl⟩ := last_index hm
    rw [bl_length] at hks
    have HL : Hid (bl (s.extract (k + 1) s.size) = lastP (bl s)) := by
      show _ = _
      rw [blExtract, List.take_of_length_le (by rw [List.length_drop, bl_length]; omega)]; exact hl
    have C : Calls Tryd.prog 75 #[.string s, .string ⟨#[47]⟩] w1 fun e w' => e = .returned (.int .i64 k) ∧ Below w1.heap.size w1 w' := by
      refine (Tryd.strings_LastIndex s ⟨#[47]⟩ (by omega) w1).mono ?_
      rintro e w' ⟨rfl, h⟩
      have hk2 : Lib.lastIndex s.data.toList (⟨#[47]⟩ : ByteArray).data.toList = k := hk
      refine ⟨by rw [hk2], ?_⟩
      first | (subst h; exact Below.refl _ _) | (obtain ⟨n, rfl⟩ := h; exact below_drewN _ _ _) | (rcases h with rfl | rfl; exact Below.refl _ _; exact below_drewN _ _ 1)
    have C := Lib.hid C
    have sl := slice_from s ((k : Int) + 1) (k + 1) (by omega) (by omega)
    clear hc hm hk hl
    go_wp2_with fail
    refine C.out.mono ?_
    clear C
    rintro e w2 ⟨rfl, hb2⟩
    go_wp2_with fail
    go_ret2
    exact ⟨⟨_, by rw [HC.out]; rfl, by show _ = _; rw [HC.out, if_pos rfl]; exact HL.out⟩, hb.trans (hb2.mono hb.size)⟩

theorem last_at (zs : List ByteArray) (n : Nat) (hn : zs.length = n + 1) : ((zs.map bl).getLast?).getD [] = bl (zs[n]'(by omega)) := by
  have e : zs.length - 1 = n := by omega
  rw [List.getLast?_map, List.getLast?_eq_getElem?, List.getElem?_eq_getElem (by omega)]
  simp only [e, Option.map_some, Option.getD_some]
theorem lenv_of {E : Nat → Addr} {w : World} (hE : Env E w) (hm : ∃ m, w.cell? ⟨14, 0, none⟩ = some (.int .i64 m)) : LEnv E w :=
  ⟨⟨hE.eName, hE.eFull, hm⟩, hE.eText, hE.eKind, hE.eNone⟩
/-- The thirteen, and the library's bound. -/
structure TEnv (E : Nat → Addr) (w : World) : Prop where
  env : Env E w
  link : LEnv E w
theorem TEnv.ext {E : Nat → Addr} {w w' : World} (h : TEnv E w) (hb : Below w.heap.size w w') : TEnv E w' := ⟨h.env.ext hb, h.link.ext hb⟩

set_option maxHeartbeats 2000000 in
set_option maxRecDepth 100000 in
theorem linkTells_walk {E : Nat → Addr} {w : World} (hE : TEnv E w) (s f t : ByteArray) :
    Calls Tryd.prog 9 #[.string s, .string f, .string t] w fun e w' => e = .returned (.bool true) ∧ Below w.heap.size w w' := by
  have C := Lib.hid (linked_any w hE.link)
  have HE := Lib.hid hE
  clear hE
  go_enter Tryd.func9, Tryd.ntmps9
  go_wp2_with fail
  refine C.out.mono ?_
  clear C
  rintro e w1 ⟨rfl, b1⟩
  by_cases ls : s.size ≤ 120
  · by_cases lf : f.size ≤ 120
    · by_cases lt : t.size ≤ 120
      · have C := Lib.hid (refLinkError_any s w1 (by omega))
        go_wp2_with fail
        refine C.out.mono ?_
        clear C
        rintro e w2 ⟨rfl, hb⟩
        have b2 := b1.trans (hb.mono b1.size)
        clear hb
        have C := Lib.hid (linkCheck_any s w2 (by omega) (HE.out.ext b2).link)
        go_wp2_with fail
        refine C.out.mono ?_
        clear C
        rintro e w3 ⟨rfl, hb⟩
        have b3 := b2.trans (hb.mono b2.size)
        clear hb
        have HB := linkE_le (bl s)
        have HB2 := Lib.hid (beginE_le (bl s))
        obtain ⟨c, hc⟩ : ∃ c, linkE (bl s) = c := ⟨_, rfl⟩
        have HC := Lib.hid hc
        rw [hc] at HB
        rw [hc]
        clear hc
        have C := Lib.hid (errCoded2 (c := c) (HE.out.ext b3).env HB)
        go_wp2_with fail
        refine C.out.mono ?_
        clear C
        rintro e w4 ⟨rfl, hb⟩
        have b4 := b3.trans (hb.mono b3.size)
        clear hb
        have C := Lib.hid (linkBegins_any s w4 (by omega) (HE.out.ext b4).link)
        go_wp2_with fail
        refine C.out.mono ?_
        clear C
        rintro e w5 ⟨rfl, hb⟩
        have b5 := b4.trans (hb.mono b4.size)
        clear hb
        have C := Lib.hid (refBeginError_any s w5 (by omega))
        go_wp2_with fail
        refine C.out.mono ?_
        clear C
        rintro e w6 ⟨rfl, hb⟩
        have b6 := b5.trans (hb.mono b5.size)
        clear hb
        have C := Lib.hid (errCoded2 (HE.out.ext b6).env HB2.out)
        go_wp2_with fail
        refine C.out.mono ?_
        clear C
        rintro e w7 ⟨rfl, hb⟩
        have b7 := b6.trans (hb.mono b6.size)
        clear hb
        by_cases h0 : c = 0
        · have z : ((c : Int) == 0) = true := by rw [h0]; rfl
          have HH0 := Lib.hid h0
          clear h0
          have C := Lib.hid (refLinkParts_any s w7 (by omega))
          go_wp2_with fail
          refine C.out.mono ?_
          clear C
          rintro e w8 ⟨k, h, p, rfl, HP, hp, hb⟩
          have b8 := b7.trans (hb.mono b7.size)
          clear hb
          have C := Lib.hid (refCut_any p 47 w8 (by omega))
          go_wp2_with fail
          refine C.out.mono ?_
          clear C
          rintro e w9 ⟨v, zs, rfl, HR, HZ, hl, hb⟩
          have r9 := HR.out
          have b9 := b8.trans (hb.mono b8.size)
          clear hb
          obtain ⟨ao, cap, rfl, h1, h2, H3⟩ := r9.parts
          obtain ⟨n, hn⟩ : ∃ n, zs.length = n + 1 := by
            have := congrArg List.length HZ.out
            rw [List.length_map, cutL_len] at this
            exact ⟨_, this⟩
          obtain ⟨b, off, rfl, hbl, hcell⟩ := H3 n (by omega)
          have cn := hcell n (by omega)
          have HHH : Hid (bl h = if linkE (bl s) = 0 then lkH (bl s) else []) := by
            show _ = _
            rw [HC.out, if_pos HH0.out]
            exact (HP.out (linkE_parts (HC.out.trans HH0.out))).1
          have HLL : Hid (bl (zs[n]'(by omega)) = if linkE (bl s) = 0 then lastP (bl s) else []) := by
            show _ = _
            have hlk := linkE_parts (HC.out.trans HH0.out)
            rw [HC.out, if_pos HH0.out, (lastP_link hlk).2, ← (HP.out hlk).2]
            unfold lastP
            rw [← HZ.out]
            exact (last_at zs n hn).symm
          have hnb : n ≤ 1000 := by omega
          rw [hn] at h1 ⊢
          clear hcell H3 HR HZ r9 HP hl
          generalize zs[n]'(by omega) = L at cn HLL
          clear hn
          have C := Lib.hid (linkHost_any s w9 (by omega) (HE.out.ext b9).link)
          go_wp2_with fail
          refine C.out.mono ?_
          clear C
          rintro e w10 ⟨⟨h2, rfl, HH⟩, hb⟩
          have b10 := b9.trans (hb.mono b9.size)
          clear hb
          rw [HC.out]
          obtain rfl : h2 = h := blInj (HH.out.trans HHH.out.symm)
          clear HH HHH
          have C := Lib.hid (errCoded2 (c := c) (HE.out.ext b10).env HB)
          go_wp2_with fail
          refine C.out.mono ?_
          clear C
          rintro e w11 ⟨rfl, hb⟩
          have b11 := b10.trans (hb.mono b10.size)
          clear hb
          have C := Lib.hid (linkLast_any s w11 (by omega) (HE.out.ext b11).link)
          go_wp2_with fail
          refine C.out.mono ?_
          clear C
          rintro e w12 ⟨⟨x2, rfl, HX⟩, hb⟩
          have b12 := b11.trans (hb.mono b11.size)
          clear hb
          rw [HC.out]
          obtain rfl : x2 = L := blInj (HX.out.trans HLL.out.symm)
          clear HX HLL
          have C := Lib.hid (errCoded2 (c := c) (HE.out.ext b12).env HB)
          go_wp2_with fail
          refine C.out.mono ?_
          clear C
          rintro e w13 ⟨rfl, hb⟩
          have b13 := b12.trans (hb.mono b12.size)
          clear hb
          have C := Lib.hid (swap_any f t s w13 (by omega) (by omega) (by omega) (HE.out.ext b13).link)
          go_wp2_with fail
          refine C.out.mono ?_
          clear C
          rintro e w14 ⟨⟨x3, rfl, HX⟩, hb⟩
          have b14 := b13.trans (hb.mono b13.size)
          clear hb
          have C := Lib.hid (refSwapOf_any f t s w14 (by omega) (by omega) (by omega))
          go_wp2_with fail
          refine C.out.mono ?_
          clear C
          rintro e w15 ⟨⟨x4, rfl, HX2⟩, hb⟩
          have b15 := b14.trans (hb.mono b14.size)
          clear hb
          obtain rfl : x3 = x4 := blInj (HX.out.trans HX2.out.symm)
          clear HX HX2
          have C := Lib.hid (errCoded2 (HE.out.ext b15).env (swapE_le (bl f) (bl t) (bl s)))
          go_wp2_with fail
          refine C.out.mono ?_
          clear C
          rintro e w16 ⟨rfl, hb⟩
          have b16 := b15.trans (hb.mono b15.size)
          clear hb
          go_wp2_with fail
          go_ret
          exact ⟨rfl, b16⟩
        · have z : ((c : Int) == 0) = false := by rw [beq_eq_false_iff_ne]; omega
          have HHH : Hid (bl ⟨#[]⟩ = if linkE (bl s) = 0 then lkH (bl s) else []) := by show _ = _; rw [HC.out, if_neg h0]; rfl
          have HLL : Hid (bl ⟨#[]⟩ = if linkE (bl s) = 0 then lastP (bl s) else []) := by show _ = _; rw [HC.out, if_neg h0]; rfl
          clear h0
          have C := Lib.hid (linkHost_any s w7 (by omega) (HE.out.ext b7).link)
          go_wp2_with fail
          refine C.out.mono ?_
          clear C
          rintro e w8 ⟨⟨h2, rfl, HH⟩, hb⟩
          have b8 := b7.trans (hb.mono b7.size)
          clear hb
          rw [HC.out]
          obtain rfl : h2 = ⟨#[]⟩ := blInj (HH.out.trans HHH.out.symm)
          clear HH HHH
          have C := Lib.hid (errCoded2 (c := c) (HE.out.ext b8).env HB)
          go_wp2_with fail
          refine C.out.mono ?_
          clear C
          rintro e w9 ⟨rfl, hb⟩
          have b9 := b8.trans (hb.mono b8.size)
          clear hb
          have C := Lib.hid (linkLast_any s w9 (by omega) (HE.out.ext b9).link)
          go_wp2_with fail
          refine C.out.mono ?_
          clear C
          rintro e w10 ⟨⟨x2, rfl, HX⟩, hb⟩
          have b10 := b9.trans (hb.mono b9.size)
          clear hb
          rw [HC.out]
          obtain rfl : x2 = ⟨#[]⟩ := blInj (HX.out.trans HLL.out.symm)
          clear HX HLL
          have C := Lib.hid (errCoded2 (c := c) (HE.out.ext b10).env HB)
          go_wp2_with fail
          refine C.out.mono ?_
          clear C
          rintro e w11 ⟨rfl, hb⟩
          have b11 := b10.trans (hb.mono b10.size)
          clear hb
          have C := Lib.hid (swap_any f t s w11 (by omega) (by omega) (by omega) (HE.out.ext b11).link)
          go_wp2_with fail
          refine C.out.mono ?_
          clear C
          rintro e w12 ⟨⟨x3, rfl, HX⟩, hb⟩
          have b12 := b11.trans (hb.mono b11.size)
          clear hb
          have C := Lib.hid (refSwapOf_any f t s w12 (by omega) (by omega) (by omega))
          go_wp2_with fail
          refine C.out.mono ?_
          clear C
          rintro e w13 ⟨⟨x4, rfl, HX2⟩, hb⟩
          have b13 := b12.trans (hb.mono b12.size)
          clear hb
          obtain rfl : x3 = x4 := blInj (HX.out.trans HX2.out.symm)
          clear HX HX2
          have C := Lib.hid (errCoded2 (HE.out.ext b13).env (swapE_le (bl f) (bl t) (bl s)))
          go_wp2_with fail
          refine C.out.mono ?_
          clear C
          rintro e w14 ⟨rfl, hb⟩
          have b14 := b13.trans (hb.mono b13.size)
          clear hb
          go_wp2_with fail
          go_ret
          exact ⟨rfl, b14⟩
      · go_wp2_with fail
        go_ret
        exact ⟨rfl, b1⟩
    · go_wp2_with fail
      go_ret
      exact ⟨rfl, b1⟩
  · go_wp2_with fail
    go_ret
    exact ⟨rfl, b1⟩
end Go.Proofs.YtkplekkldkmdhaaDoor
