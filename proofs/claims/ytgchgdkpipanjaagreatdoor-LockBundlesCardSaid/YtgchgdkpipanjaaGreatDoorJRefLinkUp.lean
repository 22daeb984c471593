/- package link: parts, Check, Begins, Swap, Host by their contracts. package link: Check, Begins, Host, Swap by their contracts. The reference's LinkParts, LinkError by their contracts. The reference's glue, CleanOf, JoinOf, StripOf, IsIn, SameTexts by their contracts. The reference's SameTexts at two rows that read alike (as in XRefMore; for seats without its imports). The reference's BeginError, SwapOf by their contracts. The reference's JoinOf, StripOf, IsIn, SameTexts by their contracts. -/
import Derived.Test.YtgchgdkpipanjaaGreatDoorJPathed
import Derived.Test.YtgchgdkpipanjaaGreatDoorJRefPathed
import Derived.Test.YtgchgdkpipanjaaGreatDoorJPlainly
import Derived.Test.YtgchgdkpipanjaaGreatDoorJCleanUp
import Derived.Test.YtgchgdkpipanjaaGreatDoorJRowed
import Derived.Lib.Hide
namespace Go.Proofs.YtgchgdkpipanjaaGreatDoor
open Go Go.RowKit

structure LEnv (E : Nat → Addr) (w : World) : Prop where
  path : PEnv E w
  eText : w.cell? ⟨2, 0, none⟩ = some (sentV E 0)
  eKind : w.cell? ⟨6, 0, none⟩ = some (sentV E 3)
  eNone : w.cell? ⟨3, 0, none⟩ = some (sentV E 5)
theorem LEnv.ext {E : Nat → Addr} {w w' : World} (h : LEnv E w) (hb : Below w.heap.size w w') : LEnv E w' := by
  obtain ⟨h0, h1, h2, h3⟩ := h
  exact ⟨h0.ext hb, by rw [hb.cell (p := ⟨2, 0, none⟩) (lt_of_cell h1)]; exact h1, by rw [hb.cell (p := ⟨6, 0, none⟩) (lt_of_cell h2)]; exact h2,
    by rw [hb.cell (p := ⟨3, 0, none⟩) (lt_of_cell h3)]; exact h3⟩

theorem cut_size (l sep : List UInt8) : (Lib.cut l sep).1.length ≤ l.length ∧ (Lib.cut l sep).2.1.length ≤ l.length := by
  unfold Lib.cut
  split
  · constructor
    · simp; omega
    · simp
  · simp

set_option maxRecDepth 100000 in
theorem cut_at (s sep : ByteArray) (w : World) (hs : s.size ≤ 1000000) (hm : ∃ m, w.cell? ⟨13, 0, none⟩ = some (.int .i64 m)) :
    Calls Tryz.prog 45 #[.string s, .string sep] w fun e w' =>
      (∃ (a b : ByteArray), e = .returned (.tuple #[.string a, .string b, .bool (Lib.cut (bl s) (bl sep)).2.2]) ∧ Hid (bl a = (Lib.cut (bl s) (bl sep)).1) ∧ Hid (bl b = (Lib.cut (bl s) (bl sep)).2.1) ∧ a.size ≤ s.size ∧ b.size ≤ s.size) ∧ Below w.heap.size w w' := by
  obtain ⟨m, hm⟩ := hm
  refine (Tryz.strings_Cut s sep m w (by omega) hm).mono ?_
  rintro e w' ⟨rfl, n, rfl⟩
  have h := cut_size (bl s) (bl sep)
  rw [bl_length] at h
  exact ⟨⟨_, _, rfl, rfl, rfl, by rw [← bl_length]; exact h.1, by rw [← bl_length]; exact h.2⟩, below_drewN _ _ _⟩

theorem results_tmp4 {fn : Func} {t u v x : Tmp} (h : fn.results = #[.tmp t, .tmp u, .tmp v, .tmp x]) (tmps : Array Value) (P : Program) (w : World) :
    (results fn tmps).run P w = .ok (.tuple #[tmps.getD t undef, tmps.getD u undef, tmps.getD v undef, tmps.getD x undef]) w := by
  simp [results, h]

theorem blInj {a b : ByteArray} (h : bl a = bl b) : a = b := by
  cases a; cases b
  congr 1
  exact Array.toList_inj.1 h
def kindsB : List ByteArray := [⟨#[104, 116, 116, 112]⟩, ⟨#[102, 116, 112]⟩, ⟨#[102, 105, 108, 101]⟩]
theorem kindsB_has (k : ByteArray) : Lib.containsS (kindsB.take 3) k = kinds.contains (bl k) := by
  rw [Bool.eq_iff_iff, Lib.containsS_iff, List.contains_iff_mem]
  constructor
  · intro h; exact List.mem_map.2 ⟨k, h, rfl⟩
  · intro h
    have h2 : bl k ∈ kindsB.map bl := h
    obtain ⟨z, hz, e⟩ := List.mem_map.1 h2
    rw [← blInj e]; exact hz

set_option maxRecDepth 100000 in
theorem kinds_any (k : ByteArray) (w : World) : Calls Tryz.prog 83 #[.slice (some ⟨w.heap.size, 0, none⟩) 3 3, .string k]
    (w.alloc (.cells #[.string ⟨#[104, 116, 116, 112]⟩, .string ⟨#[102, 116, 112]⟩, .string ⟨#[102, 105, 108, 101]⟩] 9)) fun e w' => e = .returned (.bool (kinds.contains (bl k))) ∧ Below w.heap.size w w' := by
  refine (Tryz.slices_Contains_string w.heap.size 0 3 3 kindsB k _ (Nat.le_refl 3) (by decide) ?_).mono ?_
  · intro j hj
    rw [World.cell?_alloc_at _ _ _ _ rfl]
    have h3 : j < 3 := hj
    have : j = 0 ∨ j = 1 ∨ j = 2 := by omega
    rcases this with rfl | rfl | rfl <;> rfl
  · rintro e w' ⟨rfl, rfl⟩
    exact ⟨by rw [kindsB_has], (Below.refl _ w).alloc (Nat.le_refl _) _⟩

set_option maxHeartbeats 1000000 in
set_option maxRecDepth 100000 in
theorem linkParts_any {E : Nat → Addr} (s : ByteArray) (w : World) (hs : s.size ≤ 1000000) (hE : LEnv E w) : Calls Tryz.prog 126 #[.string s] w fun e w' =>
    (∃ (k h p : ByteArray), e = .returned (.tuple #[.string k, .string h, .string p, errV E (lkE (bl s))]) ∧ Hid (bl h = lkH (bl s)) ∧ Hid (bl p = lkP (bl s)) ∧ h.size ≤ s.size ∧ p.size ≤ s.size) ∧ Below w.heap.size w w' := by
  have C := Lib.hid (cut_at s ⟨#[58, 47, 47]⟩ w hs hE.path.max)
  have HE := Lib.hid hE
  clear hE
  go_enter Tryz.func126, Tryz.ntmps126
  go_wp2_with fail
  refine C.out.mono ?_
  rintro e w1 ⟨⟨k, r, rfl, HK, HR, hk, hr⟩, hb⟩
  clear C
  have e1 := HE.out.ext hb
  have C := Lib.hid (cut_at r ⟨#[47]⟩ w1 (by omega) e1.path.max)
  clear e1
  go_wp2_with fail
  refine C.out.mono ?_
  rintro e w2 ⟨⟨h, p, rfl, HH, HP, hh, hp⟩, hb2⟩
  clear C
  have hbb := hb.trans (hb2.mono hb.size)
  have hpp : p.size ≤ s.size := by omega
  have hhh : h.size ≤ s.size := by omega
  have HI : Hid ((Lib.cut (bl s) (bl ⟨#[58, 47, 47]⟩)).2.2 = lkIs (bl s)) := rfl
  have HR2 : bl r = lkR (bl s) := HR.out
  have HA : Hid ((Lib.cut (bl r) (bl ⟨#[47]⟩)).2.2 = lkAlso (bl s)) := by show _ = _; rw [HR2]; rfl
  have HH2 : Hid (bl h = lkH (bl s)) := by show _ = _; rw [HH.out, HR2]; rfl
  have HP2 : Hid (bl p = lkP (bl s)) := by show _ = _; rw [HP.out, HR2]; rfl
  have HK2 : Hid (bl k = lkK (bl s)) := HK
  have e2 := HE.out.ext hbb
  have c1 := e2.eText
  clear HH HP HK HR HR2 hr hk hh hp e2
  rw [HI.out, HA.out]
  clear HI HA
  cases hi : lkIs (bl s) with
  | false =>
    have HX : Hid (lkE (bl s) = 1) := by show _ = _; unfold lkE; rw [hi]; rfl
    clear hi
    go_wp2_with fail
    refine bodyPost_ret (results_tmp4 rfl _ _ _) rfl ?_
    exact ⟨⟨k, h, p, by rw [HX.out]; rfl, HH2, HP2, hhh, hpp⟩, hbb⟩
  | true =>
    cases ha : lkAlso (bl s) with
    | false =>
      have HX : Hid (lkE (bl s) = 1) := by show _ = _; unfold lkE; rw [hi, ha]; rfl
      clear hi ha
      go_wp2_with fail
      refine bodyPost_ret (results_tmp4 rfl _ _ _) rfl ?_
      exact ⟨⟨k, h, p, by rw [HX.out]; rfl, HH2, HP2, hhh, hpp⟩, hbb⟩
    | true =>
      have HX := Lib.hid (show lkE (bl s) = if !(kinds.contains (lkK (bl s))) then 4 else if !(partB (lkH (bl s))) then 5 else 0 by unfold lkE; rw [hi, ha]; rfl)
      clear hi ha c1
      go_wp2_with fail
      refine (kinds_any k w2).mono ?_
      rintro e w3 ⟨rfl, hb3⟩
      have hb4 := hbb.trans (hb3.mono hbb.size)
      have e3 := HE.out.ext hb4
      have c1 := e3.eKind
      have c2 := e3.path.name
      rw [HK2.out]
      clear e3
      cases hc : kinds.contains (lkK (bl s)) with
      | false =>
        have HY : Hid (lkE (bl s) = 4) := by show _ = _; rw [HX.out, hc]; rfl
        clear hc HX
        go_wp2_with fail
        refine bodyPost_ret (results_tmp4 rfl _ _ _) rfl ?_
        exact ⟨⟨k, h, p, by rw [HY.out]; rfl, HH2, HP2, hhh, hpp⟩, hb4⟩
      | true =>
        have HY : Hid (lkE (bl s) = if !(partB (lkH (bl s))) then 5 else 0) := by show _ = _; rw [HX.out, hc]; rfl
        clear hc HX c1 c2
        go_wp2_with fail
        refine (part_any h w3 (by omega)).mono ?_
        rintro e w4 ⟨rfl, hb5⟩
        have hb6 := hb4.trans (hb5.mono hb4.size)
        have c2 := (HE.out.ext hb6).path.name
        rw [HH2.out]
        cases hp : partB (lkH (bl s)) with
        | false =>
          have HZ : Hid (lkE (bl s) = 5) := by show _ = _; rw [HY.out, hp]; rfl
          clear hp HY
          go_wp2_with fail
          refine bodyPost_ret (results_tmp4 rfl _ _ _) rfl ?_
          exact ⟨⟨k, h, p, by rw [HZ.out]; rfl, HH2, HP2, hhh, hpp⟩, hb6⟩
        | true =>
          have HZ : Hid (lkE (bl s) = 0) := by show _ = _; rw [HY.out, hp]; rfl
          clear hp HY
          go_wp2_with fail
          refine bodyPost_ret (results_tmp4 rfl _ _ _) rfl ?_
          exact ⟨⟨k, h, p, by rw [HZ.out]; rfl, HH2, HP2, hhh, hpp⟩, hb6⟩
end Go.Proofs.YtgchgdkpipanjaaGreatDoor

namespace Go.Proofs.YtgchgdkpipanjaaGreatDoor
open Go Go.RowKit

set_option maxRecDepth 100000 in
theorem linkCheck_any {E : Nat → Addr} (s : ByteArray) (w : World) (hs : s.size ≤ 1000000) (hE : LEnv E w) :
    Calls Tryz.prog 82 #[.string s] w fun e w' => e = .returned (errV E (linkE (bl s))) ∧ Below w.heap.size w w' := by
  have C := Lib.hid (linkParts_any s w hs hE)
  have HE := Lib.hid hE
  clear hE
  go_enter Tryz.func82, Tryz.ntmps82
  go_wp2_with fail
  refine C.out.mono ?_
  clear C
  rintro e w1 ⟨⟨k, h, p, rfl, HH, HP, hh, hp⟩, hb⟩
  cases hc : lkE (bl s) with
  | succ c =>
    have HX : Hid (linkE (bl s) = c + 1) := by show _ = _; unfold linkE; rw [if_neg (by omega), hc]
    rw [show errV E (c + 1) = sentV E c from rfl]
    clear hc
    go_wp2_with fail
    go_ret
    exact ⟨by rw [HX.out]; rfl, hb⟩
  | zero =>
    have HX : Hid (linkE (bl s) = partsE (bl p)) := by show _ = _; unfold linkE; rw [if_pos hc, HP.out]
    rw [show errV E 0 = .nilIface from rfl]
    have C := Lib.hid (pathCheck_any p w1 (by omega) (HE.out.ext hb).path)
    clear hc
    go_wp2_with fail
    refine C.out.mono ?_
    rintro e w2 ⟨rfl, hb2⟩
    clear C
    go_wp2_with fail
    go_ret
    exact ⟨by rw [HX.out]; rfl, hb.trans (hb2.mono hb.size)⟩

/-- What link.Swap hands back. -/
def LinkSwapPost (E : Nat → Addr) (f t s : ByteArray) (w : World) (e : Ending) (w' : World) : Prop :=
  (∃ x : ByteArray, e = .returned (.tuple #[.string x, errV E (swapE (bl f) (bl t) (bl s))]) ∧ Hid (bl x = swapT (bl f) (bl t) (bl s))) ∧ Below w.heap.size w w'

theorem LinkSwapPost.err {E : Nat → Addr} {f t s : ByteArray} {w w' : World} {c : Nat} (h : Hid (swapE (bl f) (bl t) (bl s) = c + 1)) (hb : Below w.heap.size w w') : LinkSwapPost E f t s w (.returned (.tuple #[.string ⟨#[]⟩, sentV E c])) w' :=
  ⟨⟨⟨#[]⟩, by rw [h.out]; rfl, by show _ = _; unfold swapT; rw [h.out]; rfl⟩, hb⟩
theorem LinkSwapPost.ok {E : Nat → Addr} {f t s x : ByteArray} {w w' : World} (h : Hid (swapE (bl f) (bl t) (bl s) = 0)) (hx : Hid (bl x = swapX (bl f) (bl t) (bl s))) (hb : Below w.heap.size w w') : LinkSwapPost E f t s w (.returned (.tuple #[.string x, .nilIface])) w' :=
  ⟨⟨x, by rw [h.out]; rfl, by show _ = _; unfold swapT; rw [h.out, if_pos rfl]; exact hx.out⟩, hb⟩
end Go.Proofs.YtgchgdkpipanjaaGreatDoor

namespace Go.Proofs.YtgchgdkpipanjaaGreatDoor
open Go Go.RowKit

/-- What the reference's LinkParts hands back. -/
def RefLinkPost (s : ByteArray) (w : World) (e : Ending) (w' : World) : Prop :=
  ∃ k h p : ByteArray, e = .returned (.tuple #[.string k, .string h, .string p, .int .i64 (lkE (bl s))]) ∧ Hid (lkE (bl s) = 0 → bl h = lkH (bl s) ∧ bl p = lkP (bl s)) ∧ p.size ≤ s.size ∧ Below w.heap.size w w'
theorem RefLinkPost.bad {s : ByteArray} {w w' : World} {c : Nat} {n : Int} (h : Hid (lkE (bl s) = c + 1)) (hn : n = (c + 1 : Nat)) (hb : Below w.heap.size w w') :
    RefLinkPost s w (.returned (.tuple #[.string ⟨#[]⟩, .string ⟨#[]⟩, .string ⟨#[]⟩, .int .i64 n])) w' :=
  ⟨⟨#[]⟩, ⟨#[]⟩, ⟨#[]⟩, by rw [h.out, hn], fun h0 => by have := h.out; omega, Nat.zero_le _, hb⟩

theorem occ_ext (s : ByteArray) (k : Nat) : Lib.hasPrefix (bl (s.extract k s.size)) (bl ⟨#[58, 47, 47]⟩) = Lib.occAt (bl s) sepL k := by
  rw [blExtract, List.take_of_length_le (by rw [List.length_drop, bl_length]; omega)]
  rfl

set_option maxHeartbeats 2000000 in
set_option maxRecDepth 100000 in
theorem refLinkParts_any (s : ByteArray) (w : World) (hs : s.size ≤ 100000) : Calls Tryz.prog 155 #[.string s] w (RefLinkPost s w) := by
  go_enter Tryz.func155, Tryz.ntmps155
  go_wp2_with fail
  go_loopw [6] (fun i w1 => w1 = w ∧ ∃ k : Nat, k ≤ s.size ∧ i = .int .i64 k ∧ Hid (Lib.NoOcc (bl s) sepL k)) (fun i _ => s.size - (intOf i).toNat)
  case atStart => exact ⟨rfl, 0, Nat.zero_le _, rfl, Lib.NoOcc.zero _ _⟩
  case round =>
    obtain ⟨rfl, k, hk, rfl, HN⟩ := hrel
    by_cases hlt : k < s.size
    · have sl := slice_from s k k hk rfl
      go_wp2_with fail
      refine (refBegins_any (s.extract k s.size) ⟨#[58, 47, 47]⟩ _).mono ?_
      rintro e w1 ⟨rfl, rfl⟩
      rw [occ_ext s k]
      cases ho : Lib.occAt (bl s) sepL k with
      | false =>
        have H2 : Hid (Lib.NoOcc (bl s) sepL (k + 1)) := HN.out.succ ho
        clear HN ho
        go_wp2_with fail
        go_roundw
        case rel => exact ⟨trivial, k + 1, by omega, by go_num, H2⟩
        case measure => simp [intOf]; omega
      | true =>
        obtain ⟨g1, g2, g3, g4⟩ := lk_hit HN.out (by rw [bl_length]; exact hlt) ho
        rw [bl_length] at g4
        have G1 := Lib.hid g1; have G2 := Lib.hid g2; have G3 := Lib.hid g3
        clear g1 g2 g3 ho HN sl
        have hne : ((k : Int) == (s.size : Int)) = false := by rw [beq_eq_false_iff_ne]; omega
        go_wp2_with fail
        go_loopw [8] (fun j w1 => w1 = wr ∧ ∃ q : Nat, k + 3 ≤ q ∧ q ≤ s.size ∧ j = .int .i64 q ∧ Hid ((47 : UInt8) ∉ ((bl s).drop (k + 3)).take (q - (k + 3)))) (fun j _ => s.size - (intOf j).toNat)
        case atStart => exact ⟨rfl, k + 3, Nat.le_refl _, g4, by go_num, by show ¬ _; simp⟩
        case round =>
          obtain ⟨rfl, q, hq1, hq2, rfl, HQ⟩ := hrel
          by_cases hqs : q < s.size
          · have ix : ∀ W : World, (Instr.index 9 (.string s) (.int .i64 (q : Int))).run Tryz.prog W = .ok (.int .u8 s[q].toNat) W := index_nat s q q hqs rfl
            by_cases hc : s[q] = 47
            · have b1 : ((s[q].toNat : Int) != 47) = false := by rw [hc]; rfl
              have b2 : ((q : Int) == (s.size : Int)) = false := by rw [beq_eq_false_iff_ne]; omega
              have eR : lkR (bl s) = ((bl s).drop (k + 3)).take (q - (k + 3)) ++ 47 :: (bl s).drop (q + 1) := by
                rw [G3.out]
                have h1 : ((bl s).drop (k + 3)).drop (q - (k + 3)) = 47 :: (bl s).drop (q + 1) := by
                  rw [List.drop_drop, show k + 3 + (q - (k + 3)) = q by omega, drop_cons s q hqs, hc]
                rw [← h1, List.take_append_drop]
              obtain ⟨f1, f2, f3⟩ := lk_slash eR HQ.out
              have eh : bl (s.extract (k + 3) q) = lkH (bl s) := by rw [f2, blExtract]
              have ep : bl (s.extract (q + 1) s.size) = lkP (bl s) := by
                rw [f3, blExtract, List.take_of_length_le (by rw [List.length_drop, bl_length]; omega)]
              have ek : bl (s.extract 0 k) = lkK (bl s) := by rw [G2.out, blExtract]; simp
              have F1 := Lib.hid f1; have EH := Lib.hid eh; have EP := Lib.hid ep; have EK := Lib.hid ek
              have HX := Lib.hid (show lkE (bl s) = if !(kinds.contains (lkK (bl s))) then 4 else if !(partB (lkH (bl s))) then 5 else 0 by unfold lkE; rw [G1.out, f1]; rfl)
              have s1 := slice_to s k k (by omega) rfl
              have s2 := slice_nat s (k + 3) q (k + 3) q hq1 hq2 (by omega) rfl
              have s3 := slice_from s (q + 1) (q + 1) (by omega) (by omega)
              clear f1 f2 f3 eh ep ek eR HQ hc
              go_wp2_with fail
              have RW : Row encStr 1 (wr.alloc (.cells #[.string ⟨#[104, 116, 116, 112]⟩, .string ⟨#[102, 116, 112]⟩, .string ⟨#[102, 105, 108, 101]⟩] 9)) (.slice (some ⟨wr.heap.size, 0, none⟩) 3 3) kindsB :=
                Row.block1 Value.string wr kindsB 9 (by rw [maxLen_eq]; decide) wr.heap.size 3 rfl rfl
              refine (refInTexts_any (s.extract 0 k) RW (by decide)).mono ?_
              rintro e w1 ⟨rfl, hb⟩
              have b0 : Below wr.heap.size wr w1 := ((Below.refl _ wr).alloc (Nat.le_refl _) _).trans (hb.mono (by simp))
              rw [EK.out, show kindsB.map bl = kinds from rfl]
              clear hb RW
              cases hk : kinds.contains (lkK (bl s)) with
              | false =>
                have HY : Hid (lkE (bl s) = 3 + 1) := by show _ = _; rw [HX.out, hk]; rfl
                clear HX hk
                go_wp2_with fail
                refine bodyPost_ret (results_tmp4 rfl _ _ _) rfl ?_
                exact RefLinkPost.bad HY rfl b0
              | true =>
                have HY : Hid (lkE (bl s) = if !(partB (lkH (bl s))) then 5 else 0) := by show _ = _; rw [HX.out, hk]; rfl
                clear HX hk
                have sz : (s.extract (k + 3) q).size ≤ s.size := by rw [ByteArray.size_extract]; omega
                go_wp2_with fail
                refine (refIsPart_any (s.extract (k + 3) q) w1 (by omega)).mono ?_
                rintro e w2 ⟨rfl, hb2⟩
                have b3 := b0.trans (hb2.mono b0.size)
                rw [EH.out]
                cases hp : partB (lkH (bl s)) with
                | false =>
                  have HZ : Hid (lkE (bl s) = 4 + 1) := by show _ = _; rw [HY.out, hp]; rfl
                  clear HY hp
                  go_wp2_with fail
                  refine bodyPost_ret (results_tmp4 rfl _ _ _) rfl ?_
                  exact RefLinkPost.bad HZ rfl b3
                | true =>
                  have HZ : Hid (lkE (bl s) = 0) := by show _ = _; rw [HY.out, hp]; rfl
                  clear HY hp
                  go_wp2_with fail
                  go_quiet (fail)
                  go_wp2_with fail
                  refine bodyPost_ret (results_tmp4 rfl _ _ _) rfl ?_
                  exact ⟨s.extract 0 k, s.extract (k + 3) q, s.extract (q + 1) s.size, by rw [HZ.out]; rfl, fun _ => ⟨EH.out, EP.out⟩, by rw [ByteArray.size_extract]; omega, b3.trans ((below_drewN _ _ _).mono b3.size)⟩
            · have b1 : ((s[q].toNat : Int) != 47) = true := by
                rw [bne_iff_ne]; intro h; exact hc (UInt8.toNat_inj.1 (by show _ = 47; omega))
              have H2 : Hid ((47 : UInt8) ∉ ((bl s).drop (k + 3)).take (q + 1 - (k + 3))) := by
                show ¬ _
                rw [show q + 1 - (k + 3) = (q - (k + 3)) + 1 by omega, List.take_add_one, List.mem_append]
                rintro (h | h)
                · exact HQ.out h
                · rw [List.getElem?_drop, show k + 3 + (q - (k + 3)) = q by omega, List.getElem?_eq_getElem (by rw [bl_length]; exact hqs)] at h
                  simp only [Option.toList_some, List.mem_singleton] at h
                  exact hc h.symm
              clear HQ hc
              go_wp2_with fail
              go_roundw
              case rel => exact ⟨trivial, q + 1, by omega, by omega, by go_num, H2⟩
              case measure => simp [intOf]; omega
          · have hqq : q = s.size := by omega
            have b2 : ((q : Int) == (s.size : Int)) = true := by rw [beq_iff_eq]; omega
            have HX : Hid (lkE (bl s) = 0 + 1) := by
              show _ = _
              have hn : (47 : UInt8) ∉ lkR (bl s) := by
                rw [G3.out]
                have := HQ.out
                rwa [List.take_of_length_le (by rw [List.length_drop, bl_length]; omega)] at this
              unfold lkE
              rw [lk_noslash hn]; simp
            clear HQ
            go_wp2_with fail
            refine bodyPost_ret (results_tmp4 rfl _ _ _) rfl ?_
            exact RefLinkPost.bad HX rfl (Below.refl _ _)
    · have HX : Hid (lkE (bl s) = 0 + 1) := by
        show _ = _
        unfold lkE
        rw [lk_miss (l := bl s) (by rw [bl_length, show s.size = k by omega]; exact HN.out)]; rfl
      have he : ((k : Int) == (s.size : Int)) = true := by rw [beq_iff_eq]; omega
      clear HN
      go_wp2_with fail
      refine bodyPost_ret (results_tmp4 rfl _ _ _) rfl ?_
      exact RefLinkPost.bad HX rfl (Below.refl _ _)

set_option maxRecDepth 100000 in
theorem refLinkError_any (s : ByteArray) (w : World) (hs : s.size ≤ 100000) : Calls Tryz.prog 109 #[.string s] w fun e w' => e = .returned (.int .i64 (linkE (bl s))) ∧ Below w.heap.size w w' := by
  have C := Lib.hid (refLinkParts_any s w hs)
  go_enter Tryz.func109, Tryz.ntmps109
  go_wp2_with fail
  refine C.out.mono ?_
  clear C
  rintro e w1 ⟨k, h, p, rfl, HP, hp, hb⟩
  obtain ⟨c, hc⟩ : ∃ c, lkE (bl s) = c := ⟨_, rfl⟩
  rw [hc]
  cases c with
  | succ c =>
    have HX : Hid (linkE (bl s) = c + 1) := by show _ = _; unfold linkE; rw [if_neg (by omega), hc]
    have hpos : (0 : Int) < ((c + 1 : Nat) : Int) := by omega
    clear hc HP
    generalize hn : ((c + 1 : Nat) : Int) = n at hpos
    have HN := Lib.hid hn
    clear hn
    go_wp2_with fail
    go_ret
    exact ⟨by rw [HX.out, HN.out]; rfl, hb⟩
  | zero =>
    have HX : Hid (linkE (bl s) = partsE (bl p)) := by show _ = _; unfold linkE; rw [if_pos hc, (HP.out hc).2]
    rw [show ((0 : Nat) : Int) = 0 from rfl]
    clear hc HP
    have C := Lib.hid (refPathError_any p w1 (by omega))
    go_wp2_with fail
    refine C.out.mono ?_
    clear C
    rintro e w2 ⟨rfl, hb2⟩
    go_wp2_with fail
    go_ret
    exact ⟨by rw [HX.out]; rfl, hb.trans (hb2.mono hb.size)⟩

end Go.Proofs.YtgchgdkpipanjaaGreatDoor

namespace Go.Proofs.YtgchgdkpipanjaaGreatDoor
open Go Go.RowKit

theorem glue_step (w : List (List UInt8)) (k : Nat) (h : k < w.length) :
    [47].intercalate (w.take (k + 1)) = (if k = 0 then [] else [47].intercalate (w.take k) ++ [47]) ++ w[k] := by
  have aux : ∀ (l : List (List UInt8)) (x : List UInt8), [47].intercalate (l ++ [x]) = (if l = [] then [] else [47].intercalate l ++ [47]) ++ x := by
    intro l
    induction l with
    | nil => intro x; simp [List.intercalate]
    | cons a l ih =>
      intro x
      rw [if_neg (by simp)]
      cases l with
      | nil => simp [List.intercalate]
      | cons b l =>
        rw [List.cons_append, List.cons_append, join_cons, ← List.cons_append, ih, if_neg (by simp), join_cons]
        simp
  rw [List.take_add_one, List.getElem?_eq_getElem h]
  show [47].intercalate (w.take k ++ [w[k]]) = _
  rw [aux]
  by_cases h0 : k = 0
  · subst h0; simp
  · rw [if_neg h0, if_neg (by intro e; have := congrArg List.length e; rw [List.length_take, List.length_nil] at this; omega)]

set_option maxHeartbeats 400000 in
set_option maxRecDepth 100000 in
theorem glue_any {w : World} {v : Value} {zs : List ByteArray} (hv : Row encStr 1 w v zs) (hn : zs.length ≤ 1000) (hz : ∀ z ∈ zs, z.size ≤ 10000) :
    Calls Tryz.prog 207 #[v] w fun e w' => (∃ x : ByteArray, e = .returned (.string x) ∧ Hid (bl x = [47].intercalate (zs.map bl))) ∧ w = w' := by
  obtain ⟨ao, cap, rfl, h1, h2, H3⟩ := hv.parts
  have HM := Lib.hid H3
  have HS := Lib.hid hz
  clear H3 hv hz
  go_enter Tryz.func207, Tryz.ntmps207
  go_wp2_with fail
  go_loop [3, 4] (fun g i => ∃ (k : Nat) (x : ByteArray), k ≤ zs.length ∧ i = .int .i64 k ∧ g = .string x ∧ x.size ≤ 10001 * k ∧ Hid (bl x = [47].intercalate ((zs.map bl).take k))) (fun _ i => zs.length - (intOf i).toNat)
  case atStart => exact ⟨0, ⟨#[]⟩, Nat.zero_le _, rfl, rfl, Nat.le_refl _, rfl⟩
  case round =>
    obtain ⟨k, x, hk, rfl, rfl, hx, HX⟩ := hrel
    by_cases hlt : k < zs.length
    · obtain ⟨b, off, rfl, hbl, hcell⟩ := HM.out k hlt
      have cl := hcell k hlt
      have sz := HS.out zs[k] (List.getElem_mem hlt)
      clear hcell
      have HG : Hid ([47].intercalate ((zs.map bl).take (k + 1)) = (if k = 0 then [] else bl x ++ [47]) ++ bl zs[k]) := by
        show _ = _
        rw [glue_step _ k (by rw [List.length_map]; exact hlt), HX.out, List.getElem_map]
      generalize zs[k] = z at cl sz HG
      clear HX
      by_cases h0 : k = 0
      · subst h0
        simp only [Nat.add_zero] at cl
        have HG2 : Hid (bl (x ++ z) = [47].intercalate ((zs.map bl).take 1)) := by
          show _ = _
          have e : x.size = 0 := by omega
          have e2 : bl x = [] := List.eq_nil_of_length_eq_zero (by rw [bl_length]; exact e)
          rw [HG.out, if_pos rfl, blAdd, e2]
        have hs : (x ++ z).size = x.size + z.size := by have := congrArg List.length (blAdd x z); rw [List.length_append, bl_length, bl_length, bl_length] at this; exact this
        clear HG
        go_wp2_with fail
        go_round
        case rel => exact ⟨1, _, by omega, by go_num, rfl, by omega, HG2⟩
        case measure => simp [intOf]; omega
      · have HG2 : Hid (bl (x ++ ⟨#[47]⟩ ++ z) = [47].intercalate ((zs.map bl).take (k + 1))) := by
          show _ = _
          rw [HG.out, if_neg h0, blAdd, blAdd]; rfl
        have hs : (x ++ ⟨#[47]⟩ ++ z).size = x.size + 1 + z.size := by
          have e1 := congrArg List.length (blAdd (x ++ ⟨#[47]⟩) z)
          have e2 := congrArg List.length (blAdd x ⟨#[47]⟩)
          rw [List.length_append, bl_length, bl_length, bl_length] at e1 e2
          rw [e1, e2]; rfl
        clear HG
        have hpos : 0 < k := by omega
        go_wp2_with fail
        go_round
        case rel => exact ⟨k + 1, _, by omega, by go_num, rfl, by omega, HG2⟩
        case measure => simp [intOf]; omega
    · obtain rfl : k = zs.length := by omega
      have HX2 : Hid (bl x = [47].intercalate (zs.map bl)) := by show _ = _; rw [HX.out, List.take_of_length_le (by rw [List.length_map]; exact Nat.le_refl _)]
      clear HX
      go_wp2_with fail
      go_ret
      exact ⟨⟨x, rfl, HX2⟩, rfl⟩

/-- What the reference's CleanOf hands back. -/
def RefCleanPost (s : ByteArray) (w : World) (e : Ending) (w' : World) : Prop :=
  (∃ x : ByteArray, e = .returned (.tuple #[.string x, .int .i64 (cleanE (bl s))]) ∧ Hid (bl x = cleanT (bl s))) ∧ Below w.heap.size w w'
theorem RefCleanPost.err {s : ByteArray} {w w' : World} {n : Int} (h : Hid ((cleanE (bl s) : Int) = n)) (h0 : n ≠ 0) (hb : Below w.heap.size w w') : RefCleanPost s w (.returned (.tuple #[.string ⟨#[]⟩, .int .i64 n])) w' :=
  ⟨⟨⟨#[]⟩, by rw [h.out], by show _ = _; unfold cleanT; rw [if_neg (by intro e; have := h.out; rw [e] at this; exact h0 this.symm)]; rfl⟩, hb⟩
theorem RefCleanPost.ok {s x : ByteArray} {w w' : World} (h : Hid (cleanE (bl s) = 0)) (hx : Hid (bl x = [47].intercalate (cleanW [] (cutL 47 (bl s))).2)) (hb : Below w.heap.size w w') : RefCleanPost s w (.returned (.tuple #[.string x, .int .i64 0])) w' :=
  ⟨⟨x, by rw [h.out]; rfl, by show _ = _; unfold cleanT; rw [h.out, if_pos rfl]; exact hx.out⟩, hb⟩

theorem flat_str (l : List ByteArray) : l.flatMap encStr = l.map Value.string := by
  induction l with
  | nil => rfl
  | cons x l ih => rw [List.flatMap_cons, ih]; rfl
theorem drop_map (zs : List ByteArray) (k : Nat) (h : k < zs.length) : (zs.map bl).drop k = bl zs[k] :: (zs.map bl).drop (k + 1) := by
  rw [List.drop_eq_getElem_cons (by rw [List.length_map]; exact h), List.getElem_map]

set_option maxHeartbeats 2000000 in
set_option maxRecDepth 100000 in
theorem refCleanOf_any (s : ByteArray) (w : World) (hs : s.size ≤ 1000) : Calls Tryz.prog 167 #[.string s] w (RefCleanPost s w) := by
  obtain ⟨i0, hi0, hz0, hz1, hz2⟩ := info_parts Tryz.infoS
  have C := Lib.hid (refCut_any s 47 w (by omega))
  by_cases h0 : 0 < s.size ∧ (bl s).head? = some 47
  · obtain ⟨hpos, hh⟩ := h0
    have HX : Hid ((cleanE (bl s) : Int) = 3) := by show _ = _; unfold cleanE; rw [if_pos hh]; rfl
    have ix : ∀ W : World, (Instr.index 9 (.string s) (.int .i64 0)).run Tryz.prog W = .ok (.int .u8 47) W := fun W => by
      have e : s[0] = 47 := by
        have h2 := hh
        rw [List.head?_eq_getElem?, List.getElem?_eq_getElem (by rw [bl_length]; exact hpos)] at h2
        exact Option.some.inj h2
      have := index_nat s 0 0 hpos rfl W
      rw [e] at this; exact this
    clear hh C
    go_enter Tryz.func167, Tryz.ntmps167
    go_wp2_with fail
    go_ret2
    exact RefCleanPost.err HX (by decide) (Below.refl _ _)
  · have HH : Hid ((bl s).head? ≠ some 47) := by
      intro h
      refine h0 ⟨?_, h⟩
      rw [← bl_length]
      cases hb : bl s with
      | nil => rw [hb] at h; cases h
      | cons _ _ => simp
    have hcase : s.size = 0 ∨ (0 < s.size ∧ ∃ x : UInt8, (∀ W : World, (Instr.index 9 (.string s) (.int .i64 0)).run Tryz.prog W = .ok (.int .u8 x.toNat) W) ∧ ((x.toNat : Int) == 47) = false) := by
      by_cases hz : s.size = 0
      · exact .inl hz
      · refine .inr ⟨by omega, s[0]'(by omega), fun W => index_nat s 0 0 (by omega) rfl W, ?_⟩
        rw [beq_eq_false_iff_ne]
        intro h
        refine HH.out ?_
        rw [List.head?_eq_getElem?, List.getElem?_eq_getElem (by rw [bl_length]; omega)]
        have e : (s[0]'(by omega)).toNat = 47 := by omega
        exact congrArg some (UInt8.toNat_inj.1 e)
    clear h0
    go_enter Tryz.func167, Tryz.ntmps167
    rcases hcase with hc | ⟨hpos, x0, ix, hx⟩
    all_goals
      go_wp2_with fail
      refine C.out.mono ?_
      clear C
      rintro e w1 ⟨v, zs, rfl, HR, HZ, hl, hb0⟩
      have HS : Hid (∀ z ∈ zs, z.size ≤ s.size) := fun z hz => by
        have h : bl z ∈ cutL 47 (bl s) := by rw [← HZ.out]; exact List.mem_map.2 ⟨z, hz, rfl⟩
        have := cutL_size 47 (bl s) _ h
        rwa [bl_length, bl_length] at this
      obtain ⟨ao, cap, rfl, h1, h2, H3⟩ := HR.out.parts
      have HM := Lib.hid H3
      clear H3 HR
      go_wp2_with fail
      go_loopw [5, 6, 7, 8] (fun o i _ _ wr => ∃ (k : Nat) (out : List ByteArray), k ≤ zs.length ∧ i = .int .i64 k ∧ out.length ≤ k ∧ wr.ownsRow w1.heap.size 9 1 o out.length (out.map Value.string) ∧ Hid (∀ z ∈ out, z.size ≤ s.size) ∧
        Hid (cleanW [] (zs.map bl) = cleanW (out.map bl) ((zs.map bl).drop k)) ∧ Below w1.heap.size w1 wr) (fun _ i _ _ _ => zs.length - (intOf i).toNat)
      case atStart => exact ⟨0, [], Nat.zero_le _, rfl, Nat.le_refl _, World.ownsRow_nil _ _ _ _, (fun z hz => by cases hz), rfl, Below.refl _ _⟩
      case round =>
        obtain ⟨k, out, hk, rfl, hol, hr, HO, HC, hb⟩ := hrel
        by_cases hlt : k < zs.length
        · obtain ⟨b, off, rfl, hbl, hcell⟩ := HM.out k hlt
          have cl := hcell k hlt
          rw [← hb.cell (p := ⟨b, off + k, none⟩) hbl] at cl
          have sz := HS.out zs[k] (List.getElem_mem hlt)
          have HD := Lib.hid (drop_map zs k hlt)
          clear hcell
          generalize zs[k] = z at cl sz HD
          by_cases q0 : z.toList = []
          · have HC2 : Hid (cleanW [] (zs.map bl) = cleanW (out.map bl) ((zs.map bl).drop (k + 1))) := by
              show _ = _
              rw [HC.out, HD.out, cleanW, if_pos (.inl (by rw [← toList_bl]; exact q0))]
            have g0 : z.toList.isEmpty = true := by rw [q0]; rfl
            clear q0 HC HD
            go_wp2_with fail
            go_roundw
            case rel => exact ⟨k + 1, out, by omega, by go_num, by omega, hr, HO, HC2, hb⟩
            case measure => simp [intOf]; omega
          have g0 : z.toList.isEmpty = false := by
            cases h : z.toList with
            | nil => exact absurd h q0
            | cons _ _ => rfl
          by_cases q1 : z.toList = [46]
          · have HC2 : Hid (cleanW [] (zs.map bl) = cleanW (out.map bl) ((zs.map bl).drop (k + 1))) := by
              show _ = _
              rw [HC.out, HD.out, cleanW, if_pos (.inr (by rw [← toList_bl]; exact q1))]
            have g1 : (z.toList == [46]) = true := by rw [q1]; rfl
            clear q0 q1 HC HD
            go_wp2_with fail
            go_roundw
            case rel => exact ⟨k + 1, out, by omega, by go_num, by omega, hr, HO, HC2, hb⟩
            case measure => simp [intOf]; omega
          have g1 : (z.toList == [46]) = false := beq_eq_false_iff_ne.2 q1
          have n01 : Hid (¬ (bl z = [] ∨ bl z = [46])) := by
            show ¬ _
            rw [← toList_bl]; rintro (h | h); exact q0 h; exact q1 h
          clear q0 q1
          by_cases q2 : z.toList = [46, 46]
          · have g2 : (z.toList == [46, 46]) = true := by rw [q2]; rfl
            have n2 : Hid (bl z = [46, 46]) := by show _ = _; rw [← toList_bl]; exact q2
            clear q2
            obtain ⟨m, hm⟩ : ∃ m, out.length = m := ⟨_, rfl⟩
            rw [hm] at hr
            obtain ⟨a, cap', rfl⟩ := row_form hr
            cases m with
            | zero =>
              have HX : Hid ((cleanE (bl s) : Int) = 10) := by
                show _ = _
                unfold cleanE
                rw [if_neg HH.out, ← HZ.out, HC.out, HD.out, cleanW, if_neg n01.out, if_pos n2.out, if_pos (by rw [List.eq_nil_of_length_eq_zero hm]; rfl)]; rfl
              go_wp2_with fail
              go_ret2
              exact RefCleanPost.err HX (by decide) (hb0.trans (hb.mono hb0.size))
            | succ m =>
              obtain ⟨g, cap2, ha⟩ := ownsRow_succ hr
              obtain ⟨rfl, rfl⟩ : a = some ⟨g, 0, none⟩ ∧ cap' = cap2 := by simpa using ha
              have hz : ((m : Int) + 1 == 0) = false := by rw [beq_eq_false_iff_ne]; omega
              have hcap : m + 1 ≤ cap' := row_cap hr
              have hr2 := row_pop hr
              have hk2 : out.dropLast.length = m := by rw [List.length_dropLast, hm]; rfl
              rw [← List.map_dropLast] at hr2
              have HC2 : Hid (cleanW [] (zs.map bl) = cleanW (out.dropLast.map bl) ((zs.map bl).drop (k + 1))) := by
                show _ = _
                rw [HC.out, HD.out, cleanW, if_neg n01.out, if_pos n2.out, if_neg (by intro e; have := congrArg List.length e; rw [List.length_map, hm] at this; cases this), List.map_dropLast]
              clear HC HD
              go_wp2_with fail
              go_roundw
              case rel => exact ⟨k + 1, out.dropLast, by omega, by go_num, by omega, by rw [hk2]; exact hr2, (fun z hz => HO.out z (List.dropLast_subset _ hz)), HC2, hb⟩
              case measure => simp [intOf]; omega
          · have g2 : (z.toList == [46, 46]) = false := beq_eq_false_iff_ne.2 q2
            have n2 : Hid (¬ bl z = [46, 46]) := by show ¬ _; rw [← toList_bl]; exact q2
            clear q2
            go_wp2_with fail
            refine (refIsPart_any z wr (by omega)).mono ?_
            rintro e w4 ⟨rfl, hb4⟩
            have hb5 := hb.trans (hb4.mono hb.size)
            cases hp : partB (bl z) with
            | false =>
              have HX : Hid ((cleanE (bl s) : Int) = 5) := by
                show _ = _
                unfold cleanE
                rw [if_neg HH.out, ← HZ.out, HC.out, HD.out, cleanW, if_neg n01.out, if_neg n2.out, if_neg (by rw [hp]; decide)]; rfl
              clear hp
              go_wp2_with fail
              go_ret2
              exact RefCleanPost.err HX (by decide) (hb0.trans (hb5.mono hb0.size))
            | true =>
              have HC2 : Hid (cleanW [] (zs.map bl) = cleanW ((out ++ [z]).map bl) ((zs.map bl).drop (k + 1))) := by
                show _ = _
                rw [HC.out, HD.out, cleanW, if_neg n01.out, if_neg n2.out, if_pos hp, List.map_append]; rfl
              have cl4 := (hb5.cell (p := ⟨b, off + k, none⟩) hbl).trans ((hb.cell (p := ⟨b, off + k, none⟩) hbl).symm.trans cl)
              have hr4 := rowExt hr hb4
              obtain ⟨a, cap', rfl⟩ := row_form hr4
              have HZ4 := Lib.hid sz
              clear hp HC HD cl
              have LAST : Hid (∀ (xv : Value) (wx : World), wx.ownsRow w1.heap.size 9 1 xv out.length (out.map Value.string) → Below w1.heap.size w1 wx → wx.cell? ⟨b, off + k, none⟩ = some (.string z)) := fun xv wx _ hbx =>
                (hbx.cell (p := ⟨b, off + k, none⟩) hbl).trans ((hb5.cell (p := ⟨b, off + k, none⟩) hbl).symm.trans cl4)
              rcases id hr4.2 with ⟨h3, h4⟩ | ⟨g, cap2, cur, h3, h4, h5, h6, h7, h8, h9⟩
              · obtain ⟨rfl, _, rfl⟩ : a = none ∧ out.length = 0 ∧ cap' = 0 := by simpa using h3
                obtain rfl : out = [] := List.eq_nil_of_length_eq_zero h4
                simp only [List.length_nil, List.map_nil] at hr4 LAST
                go_wp2_with (at_builtin; refine wpList_append_own _ rfl _ _ 33 rfl w1.heap.size 9 i0 (.string ⟨#[]⟩) 1 16 Tryz.underlying33 hi0 hz0 hz1 hz2 rfl (by decide) (.slice none 0 0) 0 [] rfl (World.ownsRow_nil _ _ _ _) ⟨w4.heap.size, 0, none⟩ 1 1 [.string z] rfl rfl ?c1 ?c2 ?c3 ?c4 ?c5 ?_)
                case c1 =>
                  intro j u hj
                  match j, hj with
                  | 0, hj => simp at hj; subst hj; simp [Addr.add]
                case c2 => intro u hu; simp at hu; subst hu; rfl
                case c3 => rw [maxLen_eq]; omega
                case c4 => omega
                case c5 => have := hb5.size; simp; omega
                intro v' w6 hown' hgrow _
                have hb6 : Below w1.heap.size w1 w6 := (hb5.alloc hb5.size _).grown hgrow (by have := hb5.size; simp; omega) (fun r e => by simp [Value.ownBlock] at e)
                have hr6 : w6.ownsRow w1.heap.size 9 1 v' 1 [.string z] := by simpa using hown'
                clear hown' hgrow
                go_wp2_with fail
                go_roundw
                case rel => exact ⟨k + 1, [z], by omega, by go_num, by simp, hr6, (fun y hy => by obtain rfl := List.mem_singleton.1 hy; exact HZ4.out), HC2, hb6⟩
                case measure => simp [intOf]; omega
              · obtain ⟨rfl, rfl⟩ : a = some ⟨g, 0, none⟩ ∧ cap' = cap2 := by simpa using h3
                clear h3 h4 h5 h6 h7 h8 h9
                go_wp2_with (at_builtin; refine wpList_append_own _ rfl _ _ 33 rfl w1.heap.size 9 i0 (.string ⟨#[]⟩) 1 16 Tryz.underlying33 hi0 hz0 hz1 hz2 rfl (by decide) (.slice none 0 0) 0 [] rfl (World.ownsRow_nil _ _ _ _) ⟨g, 0, none⟩ out.length cap' (out.map Value.string) rfl (by simp) ?c1 ?c2 ?c3 ?c4 ?c5 ?_)
                case c1 => intro j u hj; exact hr4.cells (g := g) rfl j u hj
                case c2 => intro u hu; obtain ⟨y, _, rfl⟩ := List.mem_map.1 hu; rfl
                case c3 => rw [maxLen_eq]; omega
                case c4 => omega
                case c5 => exact hb5.size
                intro v5 w5 hown5 hgrow5 _
                have hb6 : Below w1.heap.size w1 w5 := hb5.grown hgrow5 hb5.size (fun r e => by simp [Value.ownBlock] at e)
                have hr5 : w5.ownsRow w1.heap.size 9 1 v5 out.length (out.map Value.string) := by simpa using hown5
                have cl5 := LAST.out v5 w5 hr5 hb6
                clear hown5 hgrow5 cl4
                go_wp2_with (at_builtin; refine wpList_append_own _ rfl _ _ 33 rfl w1.heap.size 9 i0 (.string ⟨#[]⟩) 1 16 Tryz.underlying33 hi0 hz0 hz1 hz2 rfl (by decide) _ _ _ rfl (hr5.alloc _) ⟨w5.heap.size, 0, none⟩ 1 1 [.string z] rfl rfl ?c1 ?c2 ?c3 ?c4 ?c5 ?_)
                case c1 =>
                  intro j u hj
                  match j, hj with
                  | 0, hj => simp at hj; subst hj; simp [Addr.add]
                case c2 => intro u hu; simp at hu; subst hu; rfl
                case c3 => rw [maxLen_eq]; omega
                case c4 => omega
                case c5 => have := hb6.size; simp; omega
                intro v6 w6 hown6 hgrow6 _
                have hb7 : Below w1.heap.size w1 w6 := (hb6.alloc hb6.size _).grown hgrow6 (by have := hb6.size; simp; omega) (fun r e => (hr5.lt r e).1)
                have hr6 : w6.ownsRow w1.heap.size 9 1 v6 (out ++ [z]).length ((out ++ [z]).map Value.string) := by simpa using hown6
                clear hown6 hgrow6 hr5
                go_wp2_with fail
                go_roundw
                case rel =>
                  refine ⟨k + 1, out ++ [z], by omega, by go_num, by simp; omega, hr6, (fun y hy => ?_), HC2, hb7⟩
                  rcases List.mem_append.1 hy with h | h
                  · exact HO.out y h
                  · obtain rfl := List.mem_singleton.1 h; exact HZ4.out
                case measure => simp [intOf]; omega
        · obtain rfl : k = zs.length := by omega
          obtain ⟨a, cap', rfl⟩ := row_form hr
          have HF : Hid (cleanW [] (cutL 47 (bl s)) = (if 6 < out.length then 8 else 0, out.map bl)) := by
            show _ = _
            rw [← HZ.out, HC.out, List.drop_of_length_le (by rw [List.length_map]; exact Nat.le_refl _), cleanW, List.length_map]
          by_cases h6 : out.length ≤ 6
          · have HX : Hid (cleanE (bl s) = 0) := by show _ = _; unfold cleanE; rw [if_neg HH.out, HF.out, if_neg (by omega)]
            have hrow : Row encStr 1 wr (.slice a out.length cap') out := Row.of_owns (enc := encStr) (base := w1.heap.size) (e := 9) (fun _ => rfl) (by rw [show out.flatMap encStr = out.map Value.string from flat_str out]; exact hr)
            have C := Lib.hid (glue_any hrow (by omega) (fun z hz => by have := HO.out z hz; omega))
            clear hrow
            go_wp2_with fail
            refine C.out.mono ?_
            clear C
            rintro e w5 ⟨⟨x, rfl, HX2⟩, rfl⟩
            go_wp2_with fail
            go_ret2
            exact RefCleanPost.ok HX (by show _ = _; rw [HF.out]; exact HX2.out) (hb0.trans (hb.mono hb0.size))
          · have HX : Hid ((cleanE (bl s) : Int) = 8) := by show _ = _; unfold cleanE; rw [if_neg HH.out, HF.out, if_pos (by omega)]; rfl
            go_wp2_with fail
            all_goals go_ret2
            all_goals exact RefCleanPost.err HX (by decide) (hb0.trans (hb.mono hb0.size))
end Go.Proofs.YtgchgdkpipanjaaGreatDoor

namespace Go.Proofs.YtgchgdkpipanjaaGreatDoor
open Go Go.RowKit

end Go.Proofs.YtgchgdkpipanjaaGreatDoor

namespace Go.Proofs.YtgchgdkpipanjaaGreatDoor
open Go Go.RowKit

/-- What the reference's SwapOf hands back. -/
def RefSwapPost (f t s : ByteArray) (w : World) (e : Ending) (w' : World) : Prop :=
  (∃ x : ByteArray, e = .returned (.tuple #[.string x, .int .i64 (swapE (bl f) (bl t) (bl s))]) ∧ Hid (bl x = swapT (bl f) (bl t) (bl s))) ∧ Below w.heap.size w w'
theorem RefSwapPost.err {f t s : ByteArray} {w w' : World} {c : Nat} {n : Int} (h : Hid (swapE (bl f) (bl t) (bl s) = c + 1)) (hn : Hid (((c + 1 : Nat) : Int) = n)) (hb : Below w.heap.size w w') : RefSwapPost f t s w (.returned (.tuple #[.string ⟨#[]⟩, .int .i64 n])) w' :=
  ⟨⟨⟨#[]⟩, by rw [h.out, hn.out], by show _ = _; unfold swapT; rw [h.out]; rfl⟩, hb⟩
theorem RefSwapPost.ok {f t s x : ByteArray} {w w' : World} (h : Hid (swapE (bl f) (bl t) (bl s) = 0)) (hx : Hid (bl x = swapX (bl f) (bl t) (bl s))) (hb : Below w.heap.size w w') : RefSwapPost f t s w (.returned (.tuple #[.string x, .int .i64 0])) w' :=
  ⟨⟨x, by rw [h.out]; rfl, by show _ = _; unfold swapT; rw [h.out, if_pos rfl]; exact hx.out⟩, hb⟩

end Go.Proofs.YtgchgdkpipanjaaGreatDoor

namespace Go.Proofs.YtgchgdkpipanjaaGreatDoor
open Go Go.RowKit

/-- What the reference's JoinOf hands back. -/
def RefJoinPost (d s : ByteArray) (w : World) (e : Ending) (w' : World) : Prop :=
  (∃ x : ByteArray, e = .returned (.tuple #[.string x, .int .i64 (cleanE (joinS (bl d) (bl s)))]) ∧ Hid (bl x = cleanT (joinS (bl d) (bl s)))) ∧ Below w.heap.size w w'

set_option maxRecDepth 100000 in
theorem refJoinOf_any (d s : ByteArray) (w : World) (hd : d.size ≤ 300) (hs : s.size ≤ 300) :
    Calls Tryz.prog 121 #[.string d, .string s] w (RefJoinPost d s w) := by
  by_cases h : d.toList = []
  · have g : d.toList.isEmpty = true := by rw [h]; rfl
    have HJ : Hid (joinS (bl d) (bl s) = bl s) := by show _ = _; unfold joinS; rw [if_pos (by rw [← toList_bl]; exact h)]
    have C := Lib.hid (refCleanOf_any s w (by omega))
    clear h
    go_enter Tryz.func121, Tryz.ntmps121
    go_wp2_with fail
    refine C.out.mono ?_
    clear C
    rintro e w1 ⟨⟨x, rfl, HX⟩, hb⟩
    go_wp2_with fail
    go_ret2
    exact ⟨⟨x, by rw [HJ.out]; rfl, by show _ = _; rw [HJ.out]; exact HX.out⟩, hb⟩
  · have g : d.toList.isEmpty = false := by
      cases h2 : d.toList with
      | nil => exact absurd h2 h
      | cons _ _ => rfl
    have HJ : Hid (joinS (bl d) (bl s) = bl (d ++ ⟨#[47]⟩ ++ s)) := by
      show _ = _
      unfold joinS; rw [if_neg (by rw [← toList_bl]; exact h), blAdd, blAdd, List.append_assoc]; rfl
    have hsz : (d ++ ⟨#[47]⟩ ++ s).size ≤ 1000 := by
      have e1 := congrArg List.length (blAdd (d ++ ⟨#[47]⟩) s)
      have e2 := congrArg List.length (blAdd d ⟨#[47]⟩)
      rw [List.length_append, bl_length, bl_length, bl_length] at e1 e2
      have e : (⟨#[47]⟩ : ByteArray).size = 1 := rfl
      omega
    have C := Lib.hid (refCleanOf_any (d ++ ⟨#[47]⟩ ++ s) w hsz)
    clear h
    go_enter Tryz.func121, Tryz.ntmps121
    go_wp2_with fail
    refine C.out.mono ?_
    clear C
    rintro e w1 ⟨⟨x, rfl, HX⟩, hb⟩
    go_wp2_with fail
    go_ret2
    exact ⟨⟨x, by rw [HJ.out]; rfl, by show _ = _; rw [HJ.out]; exact HX.out⟩, hb⟩

/-- What the reference's StripOf hands back. -/
def RefStripPost (s : ByteArray) (n : Int) (w : World) (e : Ending) (w' : World) : Prop :=
  (∃ x : ByteArray, e = .returned (.tuple #[.string x, .int .i64 (stripE (bl s) n)]) ∧ Hid (bl x = stripT (bl s) n)) ∧ Below w.heap.size w w'
theorem RefStripPost.err {s : ByteArray} {n : Int} {w w' : World} {m : Int} (h : Hid ((stripE (bl s) n : Int) = m)) (h0 : m ≠ 0) (hb : Below w.heap.size w w') : RefStripPost s n w (.returned (.tuple #[.string ⟨#[]⟩, .int .i64 m])) w' :=
  ⟨⟨⟨#[]⟩, by rw [h.out], by show _ = _; unfold stripT; rw [if_neg (by intro e; have := h.out; rw [e] at this; exact h0 this.symm)]; rfl⟩, hb⟩

end Go.Proofs.YtgchgdkpipanjaaGreatDoor
