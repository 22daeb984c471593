/- package link: parts, Check, Begins, Swap, Host by their contracts. package link: Check, Begins, Host, Swap by their contracts. The reference's LinkParts, LinkError by their contracts. The reference's SameTexts at two rows that read alike (as in XRefMore; for seats without its imports). The reference's BeginError, SwapOf by their contracts. The reference's glue, CleanOf, JoinOf, StripOf, IsIn, SameTexts by their contracts. The reference's JoinOf, StripOf, IsIn, SameTexts by their contracts. -/
import Derived.Test.YtcjjbpoaojjojaaGreatDoorJPathedEtc
import Derived.Test.YtcjjbpoaojjojaaGreatDoorJPlainly
import Derived.Test.YtcjjbpoaojjojaaGreatDoorJRowedEtc
import Derived.Lib.Hide
import Derived.Test.YtcjjbpoaojjojaaGreatDoorJCleanUp
namespace Go.Proofs.YtcjjbpoaojjojaaGreatDoor
open Go Go.RowKit

structure LEnv (E : Nat → Addr) (w : World) : Prop where
  path : PEnv E w
  eText : w.cell? ⟨6, 0, none⟩ = some (sentV E 0)
  eKind : w.cell? ⟨5, 0, none⟩ = some (sentV E 3)
  eNone : w.cell? ⟨3, 0, none⟩ = some (sentV E 5)
theorem LEnv.ext {E : Nat → Addr} {w w' : World} (h : LEnv E w) (hb : Below w.heap.size w w') : LEnv E w' := by
  obtain ⟨h0, h1, h2, h3⟩ := h
  exact ⟨h0.ext hb, by rw [hb.cell (p := ⟨6, 0, none⟩) (lt_of_cell h1)]; exact h1, by rw [hb.cell (p := ⟨5, 0, none⟩) (lt_of_cell h2)]; exact h2,
    by rw [hb.cell (p := ⟨3, 0, none⟩) (lt_of_cell h3)]; exact h3⟩

theorem cut_size (l sep : List UInt8) : (Lib.cut l sep).1.length ≤ l.length ∧ (Lib.cut l sep).2.1.length ≤ l.length := by
  unfold Lib.cut
  split
  · constructor
    · simp; omega
    · simp
  · simp

set_option maxRecDepth 100000 in
theorem cut_at (s sep : ByteArray) (w : World) (hs : s.size ≤ 1000000) (hm : ∃ m, w.cell? ⟨14, 0, none⟩ = some (.int .i64 m)) :
    Calls Tryz.prog 87 #[.string s, .string sep] w fun e w' =>
      (∃ (a b : ByteArray), e = .returned (.tuple #[.string a, .string b, .bool (Lib.cut (bl s) (bl sep)).2.2]) ∧ Hid (bl a = (Lib.cut (bl s) (bl sep)).1) ∧ Hid (bl b = (Lib.cut (bl s) (bl sep)).2.1) ∧ a.size ≤ s.size ∧ b.size ≤ s.size) ∧ Below w.heap.size w w' := by
  obtain ⟨m, hm⟩ := hm
  refine (Tryz.strings_Cut s sep m w (by omega) hm).mono ?_
  rintro e w' ⟨rfl, n, rfl⟩
  have h := cut_size (bl s) (bl sep)
  rw [bl_length] at h
  exact ⟨⟨_, _, rfl, rfl, rfl, by rw [← bl_length]; exact h.1, by rw [← bl_length]; exact h.2⟩, below_drewN _ _ _⟩

theorem results_tmp4 {fn : Func} {t u v x : Tmp} (h : fn.results = #[.tmp t, .tmp u, .tmp v, .tmp x]) (tmps : Array Value) (P : Program) (w : World) :
    (results fn tmps).run P w = .ok (.tuple #[tmps.getD t undef, tmps.getD u undef, tmps.getD v undef, tmps.getD x undef]) w := by
  simp [results, h]

theorem blInj {a b : ByteArray} (h : bl a = bl b) : a = b := by
  cases a; cases b
  congr 1
  exact Array.toList_inj.1 h
def kindsB : List ByteArray := [⟨#[104, 116, 116, 112]⟩, ⟨#[102, 116, 112]⟩, ⟨#[102, 105, 108, 101]⟩]
theorem kindsB_has (k : ByteArray) : Lib.containsS (kindsB.take 3) k = kinds.contains (bl k) := by
  rw [Bool.eq_iff_iff, Lib.containsS_iff, List.contains_iff_mem]
  constructor
  · intro h; exact List.mem_map.2 ⟨k, h, rfl⟩
  · intro h
    have h2 : bl k ∈ kindsB.map bl := h
    obtain ⟨z, hz, e⟩ := List.mem_map.1 h2
    rw [← blInj e]; exact hz

set_option maxRecDepth 100000 in
theorem kinds_any (k : ByteArray) (w : World) : Calls Tryz.prog 78 #[.slice (some ⟨w.heap.size, 0, none⟩) 3 3, .string k]
    (w.alloc (.cells #[.string ⟨#[104, 116, 116, 112]⟩, .string ⟨#[102, 116, 112]⟩, .string ⟨#[102, 105, 108, 101]⟩] 9)) fun e w' => e = .returned (.bool (kinds.contains (bl k))) ∧ Below w.heap.size w w' := by
  refine (Tryz.slices_Contains_string w.heap.size 0 3 3 kindsB k _ (Nat.le_refl 3) (by decide) ?_).mono ?_
  · intro j hj
    rw [World.cell?_alloc_at _ _ _ _ rfl]
    have h3 : j < 3 := hj
    have : j = 0 ∨ j = 1 ∨ j = 2 := by omega
    rcases this with rfl | rfl | rfl <;> rfl
  · rintro e w' ⟨rfl, rfl⟩
    exact ⟨by rw [kindsB_has], (Below.refl _ w).alloc (Nat.le_refl _) _⟩

set_option maxHeartbeats 1000000 in
set_option maxRecDepth 100000 in
theorem linkParts_any {E : Nat → Addr} (s : ByteArray) (w : World) (hs : s.size ≤ 1000000) (hE : LEnv E w) : Calls Tryz.prog 150 #[.string s] w fun e w' =>
    (∃ (k h p : ByteArray), e = .returned (.tuple #[.string k, .string h, .string p, errV E (lkE (bl s))]) ∧ Hid (bl h = lkH (bl s)) ∧ Hid (bl p = lkP (bl s)) ∧ h.size ≤ s.size ∧ p.size ≤ s.size) ∧ Below w.heap.size w w' := by
  have C := Lib.hid (cut_at s ⟨#[58, 47, 47]⟩ w hs hE.path.max)
  have HE := Lib.hid hE
  clear hE
  go_enter Tryz.func150, Tryz.ntmps150
  go_wp2_with fail
  refine C.out.mono ?_
  rintro e w1 ⟨⟨k, r, rfl, HK, HR, hk, hr⟩, hb⟩
  clear C
  have e1 := HE.out.ext hb
  have C := Lib.hid (cut_at r ⟨#[47]⟩ w1 (by omega) e1.path.max)
  clear e1
  go_wp2_with fail
  refine C.out.mono ?_
  rintro e w2 ⟨⟨h, p, rfl, HH, HP, hh, hp⟩, hb2⟩
  clear C
  have hbb := hb.trans (hb2.mono hb.size)
  have hpp : p.size ≤ s.size := by omega
  have hhh : h.size ≤ s.size := by omega
  have HI : Hid ((Lib.cut (bl s) (bl ⟨#[58, 47, 47]⟩)).2.2 = lkIs (bl s)) := rfl
  have HR2 : bl r = lkR (bl s) := HR.out
  have HA : Hid ((Lib.cut (bl r) (bl ⟨#[47]⟩)).2.2 = lkAlso (bl s)) := by show _ = _; rw [HR2]; rfl
  have HH2 : Hid (bl h = lkH (bl s)) := by show _ = _; rw [HH.out, HR2]; rfl
  have HP2 : Hid (bl p = lkP (bl s)) := by show _ = _; rw [HP.out, HR2]; rfl
  have HK2 : Hid (bl k = lkK (bl s)) := HK
  have e2 := HE.out.ext hbb
  have c1 := e2.eText
  clear HH HP HK HR HR2 hr hk hh hp e2
  rw [HI.out, HA.out]
  clear HI HA
  cases hi : lkIs (bl s) with
  | false =>
    have HX : Hid (lkE (bl s) = 1) := by show _ = _; unfold lkE; rw [hi]; rfl
    clear hi
    go_wp2_with fail
    refine bodyPost_ret (results_tmp4 rfl _ _ _) rfl ?_
    exact ⟨⟨k, h, p, by rw [HX.out]; rfl, HH2, HP2, hhh, hpp⟩, hbb⟩
  | true =>
    cases ha : lkAlso (bl s) with
    | false =>
      have HX : Hid (lkE (bl s) = 1) := by show _ = _; unfold lkE; rw [hi, ha]; rfl
      clear hi ha
      go_wp2_with fail
      refine bodyPost_ret (results_tmp4 rfl _ _ _) rfl ?_
      exact ⟨⟨k, h, p, by rw [HX.out]; rfl, HH2, HP2, hhh, hpp⟩, hbb⟩
    | true =>
      have HX := Lib.hid (show lkE (bl s) = if !(kinds.contains (lkK (bl s))) then 4 else if !(partB (lkH (bl s))) then 5 else 0 by unfold lkE; rw [hi, ha]; rfl)
      clear hi ha c1
      go_wp2_with fail
      refine (kinds_any k w2).mono ?_
      rintro e w3 ⟨rfl, hb3⟩
      have hb4 := hbb.trans (hb3.mono hbb.size)
      have e3 := HE.out.ext hb4
      have c1 := e3.eKind
      have c2 := e3.path.name
      rw [HK2.out]
      clear e3
      cases hc : kinds.contains (lkK (bl s)) with
      | false =>
        have HY : Hid (lkE (bl s) = 4) := by show _ = _; rw [HX.out, hc]; rfl
        clear hc HX
        go_wp2_with fail
        refine bodyPost_ret (results_tmp4 rfl _ _ _) rfl ?_
        exact ⟨⟨k, h, p, by rw [HY.out]; rfl, HH2, HP2, hhh, hpp⟩, hb4⟩
      | true =>
        have HY : Hid (lkE (bl s) = if !(partB (lkH (bl s))) then 5 else 0) := by show _ = _; rw [HX.out, hc]; rfl
        clear hc HX c1 c2
        go_wp2_with fail
        refine (part_any h w3 (by omega)).mono ?_
        rintro e w4 ⟨rfl, hb5⟩
        have hb6 := hb4.trans (hb5.mono hb4.size)
        have c2 := (HE.out.ext hb6).path.name
        rw [HH2.out]
        cases hp : partB (lkH (bl s)) with
        | false =>
          have HZ : Hid (lkE (bl s) = 5) := by show _ = _; rw [HY.out, hp]; rfl
          clear hp HY
          go_wp2_with fail
          refine bodyPost_ret (results_tmp4 rfl _ _ _) rfl ?_
          exact ⟨⟨k, h, p, by rw [HZ.out]; rfl, HH2, HP2, hhh, hpp⟩, hb6⟩
        | true =>
          have HZ : Hid (lkE (bl s) = 0) := by show _ = _; rw [HY.out, hp]; rfl
          clear hp HY
          go_wp2_with fail
          refine bodyPost_ret (results_tmp4 rfl _ _ _) rfl ?_
          exact ⟨⟨k, h, p, by rw [HZ.out]; rfl, HH2, HP2, hhh, hpp⟩, hb6⟩
end Go.Proofs.YtcjjbpoaojjojaaGreatDoor

namespace Go.Proofs.YtcjjbpoaojjojaaGreatDoor
open Go Go.RowKit

set_option maxRecDepth 100000 in
theorem linkCheck_any {E : Nat → Addr} (s : ByteArray) (w : World) (hs : s.size ≤ 1000000) (hE : LEnv E w) :
    Calls Tryz.prog 77 #[.string s] w fun e w' => e = .returned (errV E (linkE (bl s))) ∧ Below w.heap.size w w' := by
  have C := Lib.hid (linkParts_any s w hs hE)
  have HE := Lib.hid hE
  clear hE
  go_enter Tryz.func77, Tryz.ntmps77
  go_wp2_with fail
  refine C.out.mono ?_
  clear C
  rintro e w1 ⟨⟨k, h, p, rfl, HH, HP, hh, hp⟩, hb⟩
  cases hc : lkE (bl s) with
  | succ c =>
    have HX : Hid (linkE (bl s) = c + 1) := by show _ = _; unfold linkE; rw [if_neg (by omega), hc]
    rw [show errV E (c + 1) = sentV E c from rfl]
    clear hc
    go_wp2_with fail
    go_ret
    exact ⟨by rw [HX.out]; rfl, hb⟩
  | zero =>
    have HX : Hid (linkE (bl s) = partsE (bl p)) := by show _ = _; unfold linkE; rw [if_pos hc, HP.out]
    rw [show errV E 0 = .nilIface from rfl]
    have C := Lib.hid (pathCheck_any p w1 (by omega) (HE.out.ext hb).path)
    clear hc
    go_wp2_with fail
    refine C.out.mono ?_
    rintro e w2 ⟨rfl, hb2⟩
    clear C
    go_wp2_with fail
    go_ret
    exact ⟨by rw [HX.out]; rfl, hb.trans (hb2.mono hb.size)⟩

theorem trimSlash_any (p : ByteArray) (w : World) (hp : p.size ≤ 1000000) : Calls Tryz.prog 269 #[.string p, .string ⟨#[47]⟩] w fun e w' =>
    (∃ d : ByteArray, e = .returned (.string d) ∧ Hid (bl d = Lib.trimSuffix (bl p) [47]) ∧ d.size ≤ p.size) ∧ w' = w := by
  refine (Tryz.strings_TrimSuffix p ⟨#[47]⟩ w (by omega)).mono ?_
  rintro e w' ⟨rfl, rfl⟩
  refine ⟨⟨_, rfl, rfl, ?_⟩, rfl⟩
  rw [← bl_length, ← bl_length]
  show (Lib.trimSuffix (bl p) [47]).length ≤ (bl p).length
  unfold Lib.trimSuffix
  split
  · simp
  · exact Nat.le_refl _

set_option maxRecDepth 100000 in
theorem linkBegins_any {E : Nat → Addr} (s : ByteArray) (w : World) (hs : s.size ≤ 1000000) (hE : LEnv E w) :
    Calls Tryz.prog 232 #[.string s] w fun e w' => e = .returned (errV E (beginE (bl s))) ∧ Below w.heap.size w w' := by
  have C := Lib.hid (linkParts_any s w hs hE)
  have HE := Lib.hid hE
  clear hE
  go_enter Tryz.func232, Tryz.ntmps232
  go_wp2_with fail
  refine C.out.mono ?_
  clear C
  rintro e w1 ⟨⟨k, h, p, rfl, HH, HP, hh, hp⟩, hb⟩
  cases hc : lkE (bl s) with
  | succ c =>
    have HX : Hid (beginE (bl s) = c + 1) := by show _ = _; unfold beginE; rw [if_neg (by omega), hc]
    rw [show errV E (c + 1) = sentV E c from rfl]
    clear hc
    go_wp2_with fail
    go_ret
    exact ⟨by rw [HX.out]; rfl, hb⟩
  | zero =>
    have HX := Lib.hid (show beginE (bl s) = if Lib.trimSuffix (lkP (bl s)) [47] = [] then 0 else partsE (Lib.trimSuffix (lkP (bl s)) [47]) by unfold beginE; rw [if_pos hc])
    rw [show errV E 0 = .nilIface from rfl]
    clear hc
    go_wp2_with fail
    refine (trimSlash_any p w1 (by omega)).mono ?_
    rintro e w2 ⟨⟨d, rfl, HD, hd⟩, rfl⟩
    have HY : Hid (beginE (bl s) = if bl d = [] then 0 else partsE (bl d)) := by show _ = _; rw [HX.out, HD.out, HP.out]
    clear HX HD HP
    have he : d.toList.isEmpty = (bl d).isEmpty := by rw [toList_bl]
    cases q : d.toList.isEmpty with
    | true =>
      have HZ : Hid (beginE (bl s) = 0) := by show _ = _; rw [HY.out, if_pos (List.isEmpty_iff.1 (by rw [← he]; exact q))]
      clear HY he
      go_wp2_with fail
      go_ret
      exact ⟨by rw [HZ.out]; rfl, hb⟩
    | false =>
      have HZ : Hid (beginE (bl s) = partsE (bl d)) := by show _ = _; rw [HY.out, if_neg (by intro h; rw [he, h] at q; cases q)]
      clear HY he
      have C := Lib.hid (pathCheck_any d w2 (by omega) (HE.out.ext hb).path)
      go_wp2_with fail
      refine C.out.mono ?_
      rintro e w3 ⟨rfl, hb2⟩
      clear C
      go_wp2_with fail
      go_ret
      exact ⟨by rw [HZ.out]; rfl, hb.trans (hb2.mono hb.size)⟩

/-- What link.Swap hands back. -/
def LinkSwapPost (E : Nat → Addr) (f t s : ByteArray) (w : World) (e : Ending) (w' : World) : Prop :=
  (∃ x : ByteArray, e = .returned (.tuple #[.string x, errV E (swapE (bl f) (bl t) (bl s))]) ∧ Hid (bl x = swapT (bl f) (bl t) (bl s))) ∧ Below w.heap.size w w'

theorem LinkSwapPost.err {E : Nat → Addr} {f t s : ByteArray} {w w' : World} {c : Nat} (h : Hid (swapE (bl f) (bl t) (bl s) = c + 1)) (hb : Below w.heap.size w w') : LinkSwapPost E f t s w (.returned (.tuple #[.string ⟨#[]⟩, sentV E c])) w' :=
  ⟨⟨⟨#[]⟩, by rw [h.out]; rfl, by show _ = _; unfold swapT; rw [h.out]; rfl⟩, hb⟩
theorem LinkSwapPost.ok {E : Nat → Addr} {f t s x : ByteArray} {w w' : World} (h : Hid (swapE (bl f) (bl t) (bl s) = 0)) (hx : Hid (bl x = swapX (bl f) (bl t) (bl s))) (hb : Below w.heap.size w w') : LinkSwapPost E f t s w (.returned (.tuple #[.string x, .nilIface])) w' :=
  ⟨⟨x, by rw [h.out]; rfl, by show _ = _; unfold swapT; rw [h.out, if_pos rfl]; exact hx.out⟩, hb⟩
end Go.Proofs.YtcjjbpoaojjojaaGreatDoor

namespace Go.Proofs.YtcjjbpoaojjojaaGreatDoor
open Go Go.RowKit

/-- What the reference's LinkParts hands back. -/
def RefLinkPost (s : ByteArray) (w : World) (e : Ending) (w' : World) : Prop :=
  ∃ k h p : ByteArray, e = .returned (.tuple #[.string k, .string h, .string p, .int .i64 (lkE (bl s))]) ∧ Hid (lkE (bl s) = 0 → bl h = lkH (bl s) ∧ bl p = lkP (bl s)) ∧ p.size ≤ s.size ∧ Below w.heap.size w w'
theorem RefLinkPost.bad {s : ByteArray} {w w' : World} {c : Nat} {n : Int} (h : Hid (lkE (bl s) = c + 1)) (hn : n = (c + 1 : Nat)) (hb : Below w.heap.size w w') :
    RefLinkPost s w (.returned (.tuple #[.string ⟨#[]⟩, .string ⟨#[]⟩, .string ⟨#[]⟩, .int .i64 n])) w' :=
  ⟨⟨#[]⟩, ⟨#[]⟩, ⟨#[]⟩, by rw [h.out, hn], fun h0 => by have := h.out; omega, Nat.zero_le _, hb⟩

theorem occ_ext (s : ByteArray) (k : Nat) : Lib.hasPrefix (bl (s.extract k s.size)) (bl ⟨#[58, 47, 47]⟩) = Lib.occAt (bl s) sepL k := by
  rw [blExtract, List.take_of_length_le (by rw [List.length_drop, bl_length]; omega)]
  rfl

set_option maxHeartbeats 2000000 in
set_option maxRecDepth 100000 in
theorem refLinkParts_any (s : ByteArray) (w : World) (hs : s.size ≤ 100000) : Calls Tryz.prog 202 #[.string s] w (RefLinkPost s w) := by
  go_enter Tryz.func202, Tryz.ntmps202
  go_wp2_with fail
  go_loopw [6] (fun i w1 => w1 = w ∧ ∃ k : Nat, k ≤ s.size ∧ i = .int .i64 k ∧ Hid (Lib.NoOcc (bl s) sepL k)) (fun i _ => s.size - (intOf i).toNat)
  case atStart => exact ⟨rfl, 0, Nat.zero_le _, rfl, Lib.NoOcc.zero _ _⟩
  case round =>
    obtain ⟨rfl, k, hk, rfl, HN⟩ := hrel
    by_cases hlt : k < s.size
    · have sl := slice_from s k k hk rfl
      go_wp2_with fail
      refine (refBegins_any (s.extract k s.size) ⟨#[58, 47, 47]⟩ _).mono ?_
      rintro e w1 ⟨rfl, rfl⟩
      rw [occ_ext s k]
      cases ho : Lib.occAt (bl s) sepL k with
      | false =>
        have H2 : Hid (Lib.NoOcc (bl s) sepL (k + 1)) := HN.out.succ ho
        clear HN ho
        go_wp2_with fail
        go_roundw
        case rel => exact ⟨trivial, k + 1, by omega, by go_num, H2⟩
        case measure => simp [intOf]; omega
      | true =>
        obtain ⟨g1, g2, g3, g4⟩ := lk_hit HN.out (by rw [bl_length]; exact hlt) ho
        rw [bl_length] at g4
        have G1 := Lib.hid g1; have G2 := Lib.hid g2; have G3 := Lib.hid g3
        clear g1 g2 g3 ho HN sl
        have hne : ((k : Int) == (s.size : Int)) = false := by rw [beq_eq_false_iff_ne]; omega
        go_wp2_with fail
        go_loopw [8] (fun j w1 => w1 = wr ∧ ∃ q : Nat, k + 3 ≤ q ∧ q ≤ s.size ∧ j = .int .i64 q ∧ Hid ((47 : UInt8) ∉ ((bl s).drop (k + 3)).take (q - (k + 3)))) (fun j _ => s.size - (intOf j).toNat)
        case atStart => exact ⟨rfl, k + 3, Nat.le_refl _, g4, by go_num, by show ¬ _; simp⟩
        case round =>
          obtain ⟨rfl, q, hq1, hq2, rfl, HQ⟩ := hrel
          by_cases hqs : q < s.size
          · have ix : ∀ W : World, (Instr.index 9 (.string s) (.int .i64 (q : Int))).run Tryz.prog W = .ok (.int .u8 s[q].toNat) W := index_nat s q q hqs rfl
            by_cases hc : s[q] = 47
            · have b1 : ((s[q].toNat : Int) != 47) = false := by rw [hc]; rfl
              have b2 : ((q : Int) == (s.size : Int)) = false := by rw [beq_eq_false_iff_ne]; omega
              have eR : lkR (bl s) = ((bl s).drop (k + 3)).take (q - (k + 3)) ++ 47 :: (bl s).drop (q + 1) := by
                rw [G3.out]
                have h1 : ((bl s).drop (k + 3)).drop (q - (k + 3)) = 47 :: (bl s).drop (q + 1) := by
                  rw [List.drop_drop, show k + 3 + (q - (k + 3)) = q by omega, drop_cons s q hqs, hc]
                rw [← h1, List.take_append_drop]
              obtain ⟨f1, f2, f3⟩ := lk_slash eR HQ.out
              have eh : bl (s.extract (k + 3) q) = lkH (bl s) := by rw [f2, blExtract]
              have ep : bl (s.extract (q + 1) s.size) = lkP (bl s) := by
                rw [f3, blExtract, List.take_of_length_le (by rw [List.length_drop, bl_length]; omega)]
              have ek : bl (s.extract 0 k) = lkK (bl s) := by rw [G2.out, blExtract]; simp
              have F1 := Lib.hid f1; have EH := Lib.hid eh; have EP := Lib.hid ep; have EK := Lib.hid ek
              have HX := Lib.hid (show lkE (bl s) = if !(kinds.contains (lkK (bl s))) then 4 else if !(partB (lkH (bl s))) then 5 else 0 by unfold lkE; rw [G1.out, f1]; rfl)
              have s1 := slice_to s k k (by omega) rfl
              have s2 := slice_nat s (k + 3) q (k + 3) q hq1 hq2 (by omega) rfl
              have s3 := slice_from s (q + 1) (q + 1) (by omega) (by omega)
              clear f1 f2 f3 eh ep ek eR HQ hc
              go_wp2_with fail
              have RW : Row encStr 1 (wr.alloc (.cells #[.string ⟨#[104, 116, 116, 112]⟩, .string ⟨#[102, 116, 112]⟩, .string ⟨#[102, 105, 108, 101]⟩] 9)) (.slice (some ⟨wr.heap.size, 0, none⟩) 3 3) kindsB :=
                Row.block1 Value.string wr kindsB 9 (by rw [maxLen_eq]; decide) wr.heap.size 3 rfl rfl
              refine (refInTexts_any (s.extract 0 k) RW (by decide)).mono ?_
              rintro e w1 ⟨rfl, hb⟩
              have b0 : Below wr.heap.size wr w1 := ((Below.refl _ wr).alloc (Nat.le_refl _) _).trans (hb.mono (by simp))
              rw [EK.out, show kindsB.map bl = kinds from rfl]
              clear hb RW
              cases hk : kinds.contains (lkK (bl s)) with
              | false =>
                have HY : Hid (lkE (bl s) = 3 + 1) := by show _ = _; rw [HX.out, hk]; rfl
                clear HX hk
                go_wp2_with fail
                refine bodyPost_ret (results_tmp4 rfl _ _ _) rfl ?_
                exact RefLinkPost.bad HY rfl b0
              | true =>
                have HY : Hid (lkE (bl s) = if !(partB (lkH (bl s))) then 5 else 0) := by show _ = _; rw [HX.out, hk]; rfl
                clear HX hk
                have sz : (s.extract (k + 3) q).size ≤ s.size := by rw [ByteArray.size_extract]; omega
                go_wp2_with fail
                refine (refIsPart_any (s.extract (k + 3) q) w1 (by omega)).mono ?_
                rintro e w2 ⟨rfl, hb2⟩
                have b3 := b0.trans (hb2.mono b0.size)
                rw [EH.out]
                cases hp : partB (lkH (bl s)) with
                | false =>
                  have HZ : Hid (lkE (bl s) = 4 + 1) := by show _ = _; rw [HY.out, hp]; rfl
                  clear HY hp
                  go_wp2_with fail
                  refine bodyPost_ret (results_tmp4 rfl _ _ _) rfl ?_
                  exact RefLinkPost.bad HZ rfl b3
                | true =>
                  have HZ : Hid (lkE (bl s) = 0) := by show _ = _; rw [HY.out, hp]; rfl
                  clear HY hp
                  go_wp2_with fail
                  go_quiet (fail)
                  go_wp2_with fail
                  refine bodyPost_ret (results_tmp4 rfl _ _ _) rfl ?_
                  exact ⟨s.extract 0 k, s.extract (k + 3) q, s.extract (q + 1) s.size, by rw [HZ.out]; rfl, fun _ => ⟨EH.out, EP.out⟩, by rw [ByteArray.size_extract]; omega, b3.trans ((below_drewN _ _ _).mono b3.size)⟩
            · have b1 : ((s[q].toNat : Int) != 47) = true := by
                rw [bne_iff_ne]; intro h; exact hc (UInt8.toNat_inj.1 (by show _ = 47; omega))
              have H2 : Hid ((47 : UInt8) ∉ ((bl s).drop (k + 3)).take (q + 1 - (k + 3))) := by
                show ¬ _
                rw [show q + 1 - (k + 3) = (q - (k + 3)) + 1 by omega, List.take_add_one, List.mem_append]
                rintro (h | h)
                · exact HQ.out h
                · rw [List.getElem?_drop, show k + 3 + (q - (k + 3)) = q by omega, List.getElem?_eq_getElem (by rw [bl_length]; exact hqs)] at h
                  simp only [Option.toList_some, List.mem_singleton] at h
                  exact hc h.symm
              clear HQ hc
              go_wp2_with fail
              go_roundw
              case rel => exact ⟨trivial, q + 1, by omega, by omega, by go_num, H2⟩
              case measure => simp [intOf]; omega
          · have hqq : q = s.size := by omega
            have b2 : ((q : Int) == (s.size : Int)) = true := by rw [beq_iff_eq]; omega
            have HX : Hid (lkE (bl s) = 0 + 1) := by
              show _ = _
              have hn : (47 : UInt8) ∉ lkR (bl s) := by
                rw [G3.out]
                have := HQ.out
                rwa [List.take_of_length_le (by rw [List.length_drop, bl_length]; omega)] at this
              unfold lkE
              rw [lk_noslash hn]; simp
            clear HQ
            go_wp2_with fail
            refine bodyPost_ret (results_tmp4 rfl _ _ _) rfl ?_
            exact RefLinkPost.bad HX rfl (Below.refl _ _)
    · have HX : Hid (lkE (bl s) = 0 + 1) := by
        show _ = _
        unfold lkE
        rw [lk_miss (l := bl s) (by rw [bl_length, show s.size = k by omega]; exact HN.out)]; rfl
      have he : ((k : Int) == (s.size : Int)) = true := by rw [beq_iff_eq]; omega
      clear HN
      go_wp2_with fail
      refine bodyPost_ret (results_tmp4 rfl _ _ _) rfl ?_
      exact RefLinkPost.bad HX rfl (Below.refl _ _)

set_option maxRecDepth 100000 in
theorem refLinkError_any (s : ByteArray) (w : World) (hs : s.size ≤ 100000) : Calls Tryz.prog 198 #[.string s] w fun e w' => e = .returned (.int .i64 (linkE (bl s))) ∧ Below w.heap.size w w' := by
  have C := Lib.hid (refLinkParts_any s w hs)
  go_enter Tryz.func198, Tryz.ntmps198
  go_wp2_with fail
  refine C.out.mono ?_
  clear C
  rintro e w1 ⟨k, h, p, rfl, HP, hp, hb⟩
  obtain ⟨c, hc⟩ : ∃ c, lkE (bl s) = c := ⟨_, rfl⟩
  rw [hc]
  cases c with
  | succ c =>
    have HX : Hid (linkE (bl s) = c + 1) := by show _ = _; unfold linkE; rw [if_neg (by omega), hc]
    have hpos : (0 : Int) < ((c + 1 : Nat) : Int) := by omega
    clear hc HP
    generalize hn : ((c + 1 : Nat) : Int) = n at hpos
    have HN := Lib.hid hn
    clear hn
    go_wp2_with fail
    go_ret
    exact ⟨by rw [HX.out, HN.out]; rfl, hb⟩
  | zero =>
    have HX : Hid (linkE (bl s) = partsE (bl p)) := by show _ = _; unfold linkE; rw [if_pos hc, (HP.out hc).2]
    rw [show ((0 : Nat) : Int) = 0 from rfl]
    clear hc HP
    have C := Lib.hid (refPathError_any p w1 (by omega))
    go_wp2_with fail
    refine C.out.mono ?_
    clear C
    rintro e w2 ⟨rfl, hb2⟩
    go_wp2_with fail
    go_ret
    exact ⟨by rw [HX.out]; rfl, hb.trans (hb2.mono hb.size)⟩

theorem trim_slash (p : ByteArray) (h : 0 < p.size) (hc : p[p.size - 1] = 47) : Lib.trimSuffix (bl p) [47] = bl (p.extract 0 (p.size - 1)) := by
  have e : (bl p).getLast? = some 47 := by
    rw [List.getLast?_eq_getElem?, bl_length, List.getElem?_eq_getElem (by rw [bl_length]; omega)]
    exact congrArg some hc
  rw [trim_last, if_pos e, List.dropLast_eq_take, bl_length, blExtract]; simp
theorem trim_other (p : ByteArray) (h : 0 < p.size) (hc : ¬ p[p.size - 1] = 47) : Lib.trimSuffix (bl p) [47] = bl p := by
  have e : ¬ (bl p).getLast? = some 47 := by
    rw [List.getLast?_eq_getElem?, bl_length, List.getElem?_eq_getElem (by rw [bl_length]; omega)]
    intro h2; exact hc (Option.some.inj h2)
  rw [trim_last, if_neg e]

/-- The end of the reference's BeginError: what is left of the path. -/
theorem begin_zero {s d : ByteArray} (h0 : lkE (bl s) = 0) (hd : Lib.trimSuffix (lkP (bl s)) [47] = bl d) (he : d.toList.isEmpty = true) : beginE (bl s) = 0 := by
  unfold beginE
  rw [if_pos h0, hd, if_pos]
  rw [toList_bl] at he
  exact List.isEmpty_iff.1 he
theorem begin_path {s d : ByteArray} (h0 : lkE (bl s) = 0) (hd : Lib.trimSuffix (lkP (bl s)) [47] = bl d) (he : d.toList.isEmpty = false) : beginE (bl s) = partsE (bl d) := by
  unfold beginE
  rw [if_pos h0, hd, if_neg]
  rw [toList_bl] at he
  intro h; rw [h] at he; cases he
end Go.Proofs.YtcjjbpoaojjojaaGreatDoor

namespace Go.Proofs.YtcjjbpoaojjojaaGreatDoor
open Go Go.RowKit

set_option maxHeartbeats 400000 in
set_option maxRecDepth 100000 in
/-- SameTexts of two rows that read alike. -/
theorem sameTexts_same {w : World} {v u : Value} {xs ys : List ByteArray} (hv : Row encStr 1 w v xs) (hu : Row encStr 1 w u ys) (he : xs.map bl = ys.map bl) (hn : xs.length ≤ 1000000) :
    Calls Tryz.prog 56 #[v, u] w fun e w' => e = .returned (.bool true) ∧ Below w.heap.size w w' := by
  obtain rfl : xs = ys := by
    have inj : ∀ (a b : List ByteArray), a.map bl = b.map bl → a = b := by
      intro a
      induction a with
      | nil => intro b h; cases b with | nil => rfl | cons _ _ => cases h
      | cons x a ih =>
        intro b h
        cases b with
        | nil => cases h
        | cons y b =>
          rw [List.map_cons, List.map_cons] at h
          injection h with h1 h2
          rw [bl_inj h1, ih b h2]
    exact inj xs ys he
  obtain ⟨ao, cap, rfl, h1, h2, H3⟩ := hv.parts
  obtain ⟨ao2, cap2, rfl, h4, h5, H6⟩ := hu.parts
  have HM := Lib.hid H3
  have HN := Lib.hid H6
  clear H3 H6 hv hu he
  go_enter Tryz.func56, Tryz.ntmps56
  go_wp2_with fail
  go_loopw [5] (fun i w1 => ∃ k : Nat, k ≤ xs.length ∧ i = .int .i64 k ∧ Below w.heap.size w w1) (fun i _ => xs.length - (intOf i).toNat)
  case atStart => exact ⟨0, Nat.zero_le _, rfl, Below.refl _ _⟩
  case round =>
    obtain ⟨k, hk, rfl, hb⟩ := hrel
    by_cases hlt : k < xs.length
    · obtain ⟨b, off, rfl, hbl, hcell⟩ := HM.out k hlt
      obtain ⟨b2, off2, rfl, hbl2, hcell2⟩ := HN.out k hlt
      have c1 := hcell k hlt
      have c2 := hcell2 k hlt
      rw [← hb.cell (p := ⟨b, off + k, none⟩) hbl] at c1
      rw [← hb.cell (p := ⟨b2, off2 + k, none⟩) hbl2] at c2
      clear hcell hcell2
      have q : (xs[k].toList == xs[k].toList) = true := beq_iff_eq.2 rfl
      generalize xs[k] = z at c1 c2 q
      go_wp2_with fail
      go_quiet (fail)
      go_wp2_with fail
      go_roundw
      case rel => exact ⟨k + 1, by omega, by go_num, hb.trans ((below_drewN _ _ _).mono hb.size)⟩
      case measure => simp [intOf]; omega
    · obtain rfl : k = xs.length := by omega
      go_wp2_with fail
      go_ret
      exact ⟨rfl, hb⟩
end Go.Proofs.YtcjjbpoaojjojaaGreatDoor

namespace Go.Proofs.YtcjjbpoaojjojaaGreatDoor
open Go Go.RowKit

set_option maxHeartbeats 1000000 in
set_option maxRecDepth 100000 in
theorem refBeginError_any (s : ByteArray) (w : World) (hs : s.size ≤ 100000) : Calls Tryz.prog 184 #[.string s] w fun e w' => e = .returned (.int .i64 (beginE (bl s))) ∧ Below w.heap.size w w' := by
  have C := Lib.hid (refLinkParts_any s w hs)
  go_enter Tryz.func184, Tryz.ntmps184
  go_wp2_with fail
  refine C.out.mono ?_
  clear C
  rintro e w1 ⟨k, h, p, rfl, HP, hp, hb⟩
  obtain ⟨c, hc⟩ : ∃ c, lkE (bl s) = c := ⟨_, rfl⟩
  rw [hc]
  cases c with
  | succ c =>
    have HX : Hid (beginE (bl s) = c + 1) := by show _ = _; unfold beginE; rw [if_neg (by omega), hc]
    have hpos : (0 : Int) < ((c + 1 : Nat) : Int) := by omega
    clear hc HP
    generalize hn : ((c + 1 : Nat) : Int) = n at hpos
    have HN := Lib.hid hn
    clear hn
    go_wp2_with fail
    go_ret
    exact ⟨by rw [HX.out, HN.out]; rfl, hb⟩
  | zero =>
    have HC := Lib.hid hc
    have HQ : Hid (bl p = lkP (bl s)) := (HP.out hc).2
    rw [show ((0 : Nat) : Int) = 0 from rfl]
    clear hc HP
    by_cases h0 : 0 < p.size
    · have ix : ∀ W : World, (Instr.index 9 (.string p) (.int .i64 ((p.size : Int) - 1))).run Tryz.prog W = .ok (.int .u8 (p[p.size - 1]'(by omega)).toNat) W := index_nat p _ (p.size - 1) (by omega) (by omega)
      by_cases hc : (p[p.size - 1]'(by omega)) = 47
      · have q1 : (((p[p.size - 1]'(by omega)).toNat : Int) == 47) = true := by rw [hc]; rfl
        have HD : Hid (Lib.trimSuffix (lkP (bl s)) [47] = bl (p.extract 0 (p.size - 1))) := by show _ = _; rw [← HQ.out]; exact trim_slash p h0 hc
        have sl := slice_to p ((p.size : Int) - 1) (p.size - 1) (by omega) (by omega)
        have sz : (p.extract 0 (p.size - 1)).size ≤ p.size := by rw [ByteArray.size_extract]; omega
        clear hc HQ
        generalize p.extract 0 (p.size - 1) = d at *
        cases q2 : d.toList.isEmpty with
        | true =>
          have HX := Lib.hid (begin_zero HC.out HD.out q2)
          go_wp2_with fail
          go_ret
          exact ⟨by rw [HX.out]; rfl, hb⟩
        | false =>
          have HX := Lib.hid (begin_path HC.out HD.out q2)
          have C := Lib.hid (refPathError_any d w1 (by omega))
          go_wp2_with fail
          refine C.out.mono ?_
          clear C
          rintro e w2 ⟨rfl, hb2⟩
          go_wp2_with fail
          go_ret
          exact ⟨by rw [HX.out]; rfl, hb.trans (hb2.mono hb.size)⟩
      · have q1 : (((p[p.size - 1]'(by omega)).toNat : Int) == 47) = false := by
          rw [beq_eq_false_iff_ne]; intro h; exact hc (UInt8.toNat_inj.1 (by show _ = 47; omega))
        have HD : Hid (Lib.trimSuffix (lkP (bl s)) [47] = bl p) := by show _ = _; rw [← HQ.out]; exact trim_other p h0 hc
        clear hc HQ
        have q2 : p.toList.isEmpty = false := by
          rw [toList_bl]
          cases h : bl p with
          | nil => have := bl_length p; rw [h] at this; simp at this; omega
          | cons _ _ => rfl
        have HX := Lib.hid (begin_path HC.out HD.out q2)
        have C := Lib.hid (refPathError_any p w1 (by omega))
        go_wp2_with fail
        refine C.out.mono ?_
        clear C
        rintro e w2 ⟨rfl, hb2⟩
        go_wp2_with fail
        go_ret
        exact ⟨by rw [HX.out]; rfl, hb.trans (hb2.mono hb.size)⟩
    · have e : bl p = [] := List.eq_nil_of_length_eq_zero (by rw [bl_length]; omega)
      have HX : Hid (beginE (bl s) = 0) := by
        show _ = _
        unfold beginE
        rw [if_pos HC.out, ← HQ.out, e]; rfl
      have q2 : p.toList.isEmpty = true := by rw [toList_bl, e]; rfl
      clear e
      go_wp2_with fail
      go_ret
      exact ⟨by rw [HX.out]; rfl, hb⟩

/-- What the reference's SwapOf hands back. -/
def RefSwapPost (f t s : ByteArray) (w : World) (e : Ending) (w' : World) : Prop :=
  (∃ x : ByteArray, e = .returned (.tuple #[.string x, .int .i64 (swapE (bl f) (bl t) (bl s))]) ∧ Hid (bl x = swapT (bl f) (bl t) (bl s))) ∧ Below w.heap.size w w'
theorem RefSwapPost.err {f t s : ByteArray} {w w' : World} {c : Nat} {n : Int} (h : Hid (swapE (bl f) (bl t) (bl s) = c + 1)) (hn : Hid (((c + 1 : Nat) : Int) = n)) (hb : Below w.heap.size w w') : RefSwapPost f t s w (.returned (.tuple #[.string ⟨#[]⟩, .int .i64 n])) w' :=
  ⟨⟨⟨#[]⟩, by rw [h.out, hn.out], by show _ = _; unfold swapT; rw [h.out]; rfl⟩, hb⟩
theorem RefSwapPost.ok {f t s x : ByteArray} {w w' : World} (h : Hid (swapE (bl f) (bl t) (bl s) = 0)) (hx : Hid (bl x = swapX (bl f) (bl t) (bl s))) (hb : Below w.heap.size w w') : RefSwapPost f t s w (.returned (.tuple #[.string x, .int .i64 0])) w' :=
  ⟨⟨x, by rw [h.out]; rfl, by show _ = _; unfold swapT; rw [h.out, if_pos rfl]; exact hx.out⟩, hb⟩

end Go.Proofs.YtcjjbpoaojjojaaGreatDoor

namespace Go.Proofs.YtcjjbpoaojjojaaGreatDoor
open Go Go.RowKit

/-- What the reference's CleanOf hands back. -/
def RefCleanPost (s : ByteArray) (w : World) (e : Ending) (w' : World) : Prop :=
  (∃ x : ByteArray, e = .returned (.tuple #[.string x, .int .i64 (cleanE (bl s))]) ∧ Hid (bl x = cleanT (bl s))) ∧ Below w.heap.size w w'
theorem RefCleanPost.err {s : ByteArray} {w w' : World} {n : Int} (h : Hid ((cleanE (bl s) : Int) = n)) (h0 : n ≠ 0) (hb : Below w.heap.size w w') : RefCleanPost s w (.returned (.tuple #[.string ⟨#[]⟩, .int .i64 n])) w' :=
  ⟨⟨⟨#[]⟩, by rw [h.out], by show _ = _; unfold cleanT; rw [if_neg (by intro e; have := h.out; rw [e] at this; exact h0 this.symm)]; rfl⟩, hb⟩
theorem RefCleanPost.ok {s x : ByteArray} {w w' : World} (h : Hid (cleanE (bl s) = 0)) (hx : Hid (bl x = [47].intercalate (cleanW [] (cutL 47 (bl s))).2)) (hb : Below w.heap.size w w') : RefCleanPost s w (.returned (.tuple #[.string x, .int .i64 0])) w' :=
  ⟨⟨x, by rw [h.out]; rfl, by show _ = _; unfold cleanT; rw [h.out, if_pos rfl]; exact hx.out⟩, hb⟩

end Go.Proofs.YtcjjbpoaojjojaaGreatDoor

namespace Go.Proofs.YtcjjbpoaojjojaaGreatDoor
open Go Go.RowKit

/-- What the reference's StripOf hands back. -/
def RefStripPost (s : ByteArray) (n : Int) (w : World) (e : Ending) (w' : World) : Prop :=
  (∃ x : ByteArray, e = .returned (.tuple #[.string x, .int .i64 (stripE (bl s) n)]) ∧ Hid (bl x = stripT (bl s) n)) ∧ Below w.heap.size w w'
theorem RefStripPost.err {s : ByteArray} {n : Int} {w w' : World} {m : Int} (h : Hid ((stripE (bl s) n : Int) = m)) (h0 : m ≠ 0) (hb : Below w.heap.size w w') : RefStripPost s n w (.returned (.tuple #[.string ⟨#[]⟩, .int .i64 m])) w' :=
  ⟨⟨⟨#[]⟩, by rw [h.out], by show _ = _; unfold stripT; rw [if_neg (by intro e; have := h.out; rw [e] at this; exact h0 this.symm)]; rfl⟩, hb⟩

end Go.Proofs.YtcjjbpoaojjojaaGreatDoor
