/- package link: parts, Check, Begins, Swap, Host by their contracts. package link: Check, Begins, Host, Swap by their contracts. -/
import Derived.Test.YtgchgdkpipanjaaGreatDoorJPathed
namespace Go.Proofs.YtgchgdkpipanjaaGreatDoor
open Go Go.RowKit

structure LEnv (E : Nat → Addr) (w : World) : Prop where
  path : PEnv E w
  eText : w.cell? ⟨2, 0, none⟩ = some (sentV E 0)
  eKind : w.cell? ⟨6, 0, none⟩ = some (sentV E 3)
  eNone : w.cell? ⟨3, 0, none⟩ = some (sentV E 5)
theorem LEnv.ext {E : Nat → Addr} {w w' : World} (h : LEnv E w) (hb : Below w.heap.size w w') : LEnv E w' := by
  obtain ⟨h0, h1, h2, h3⟩ := h
  exact ⟨h0.ext hb, by rw [hb.cell (p := ⟨2, 0, none⟩) (lt_of_cell h1)]; exact h1, by rw [hb.cell (p := ⟨6, 0, none⟩) (lt_of_cell h2)]; exact h2,
    by rw [hb.cell (p := ⟨3, 0, none⟩) (lt_of_cell h3)]; exact h3⟩

theorem cut_size (l sep : List UInt8) : (Lib.cut l sep).1.length ≤ l.length ∧ (Lib.cut l sep).2.1.length ≤ l.length := by
  unfold Lib.cut
  split
  · constructor
    · simp; omega
    · simp
  · simp

set_option maxRecDepth 100000 in
theorem cut_at (s sep : ByteArray) (w : World) (hs : s.size ≤ 1000000) (hm : ∃ m, w.cell? ⟨13, 0, none⟩ = some (.int .i64 m)) :
    Calls Tryz.prog 45 #[.string s, .string sep] w fun e w' =>
      (∃ (a b : ByteArray), e = .returned (.tuple #[.string a, .string b, .bool (Lib.cut (bl s) (bl sep)).2.2]) ∧ Hid (bl a = (Lib.cut (bl s) (bl sep)).1) ∧ Hid (bl b = (Lib.cut (bl s) (bl sep)).2.1) ∧ a.size ≤ s.size ∧ b.size ≤ s.size) ∧ Below w.heap.size w w' := by
  obtain ⟨m, hm⟩ := hm
  refine (Tryz.strings_Cut s sep m w (by omega) hm).mono ?_
  rintro e w' ⟨rfl, n, rfl⟩
  have h := cut_size (bl s) (bl sep)
  rw [bl_length] at h
  exact ⟨⟨_, _, rfl, rfl, rfl, by rw [← bl_length]; exact h.1, by rw [← bl_length]; exact h.2⟩, below_drewN _ _ _⟩

theorem results_tmp4 {fn : Func} {t u v x : Tmp} (h : fn.results = #[.tmp t, .tmp u, .tmp v, .tmp x]) (tmps : Array Value) (P : Program) (w : World) :
    (results fn tmps).run P w = .ok (.tuple #[tmps.getD t undef, tmps.getD u undef, tmps.getD v undef, tmps.getD x undef]) w := by
  simp [results, h]

theorem blInj {a b : ByteArray} (h : bl a = bl b) : a = b := by
  cases a; cases b
  congr 1
  exact Array.toList_inj.1 h
def kindsB : List ByteArray := [⟨#[104, 116, 116, 112]⟩, ⟨#[102, 116, 112]⟩, ⟨#[102, 105, 108, 101]⟩]
theorem kindsB_has (k : ByteArray) : Lib.containsS (kindsB.take 3) k = kinds.contains (bl k) := by
  rw [Bool.eq_iff_iff, Lib.containsS_iff, List.contains_iff_mem]
  constructor
  · intro h; exact List.mem_map.2 ⟨k, h, rfl⟩
  · intro h
    have h2 : bl k ∈ kindsB.map bl := h
    obtain ⟨z, hz, e⟩ := List.mem_map.1 h2
    rw [← blInj e]; exact hz

set_option maxRecDepth 100000 in
theorem kinds_any (k : ByteArray) (w : World) : Calls Tryz.prog 83 #[.slice (some ⟨w.heap.size, 0, none⟩) 3 3, .string k]
    (w.alloc (.cells #[.string ⟨#[104, 116, 116, 112]⟩, .string ⟨#[102, 116, 112]⟩, .string ⟨#[102, 105, 108, 101]⟩] 9)) fun e w' => e = .returned (.bool (kinds.contains (bl k))) ∧ Below w.heap.size w w' := by
  refine (Tryz.slices_Contains_string w.heap.size 0 3 3 kindsB k _ (Nat.le_refl 3) (by decide) ?_).mono ?_
  · intro j hj
    rw [World.cell?_alloc_at _ _ _ _ rfl]
    have h3 : j < 3 := hj
    have : j = 0 ∨ j = 1 ∨ j = 2 := by omega
    rcases this with rfl | rfl | rfl <;> rfl
  · rintro e w' ⟨rfl, rfl⟩
    exact ⟨by rw [kindsB_has], (Below.refl _ w).alloc (Nat.le_refl _) _⟩

set_option maxHeartbeats 1000000 in
set_option maxRecDepth 100000 in
theorem linkParts_any {E : Nat → Addr} (s : ByteArray) (w : World) (hs : s.size ≤ 1000000) (hE : LEnv E w) : Calls Tryz.prog 126 #[.string s] w fun e w' =>
    (∃ (k h p : ByteArray), e = .returned (.tuple #[.string k, .string h, .string p, errV E (lkE (bl s))]) ∧ Hid (bl h = lkH (bl s)) ∧ Hid (bl p = lkP (bl s)) ∧ h.size ≤ s.size ∧ p.size ≤ s.size) ∧ Below w.heap.size w w' := by
  have C := Lib.hid (cut_at s ⟨#[58, 47, 47]⟩ w hs hE.path.max)
  have HE := Lib.hid hE
  clear hE
  go_enter Tryz.func126, Tryz.ntmps126
  go_wp2_with fail
  refine C.out.mono ?_
  rintro e w1 ⟨⟨k, r, rfl, HK, HR, hk, hr⟩, hb⟩
  clear C
  have e1 := HE.out.ext hb
  have C := Lib.hid (cut_at r ⟨#[47]⟩ w1 (by omega) e1.path.max)
  clear e1
  go_wp2_with fail
  refine C.out.mono ?_
  rintro e w2 ⟨⟨h, p, rfl, HH, HP, hh, hp⟩, hb2⟩
  clear C
  have hbb := hb.trans (hb2.mono hb.size)
  have hpp : p.size ≤ s.size := by omega
  have hhh : h.size ≤ s.size := by omega
  have HI : Hid ((Lib.cut (bl s) (bl ⟨#[58, 47, 47]⟩)).2.2 = lkIs (bl s)) := rfl
  have HR2 : bl r = lkR (bl s) := HR.out
  have HA : Hid ((Lib.cut (bl r) (bl ⟨#[47]⟩)).2.2 = lkAlso (bl s)) := by show _ = _; rw [HR2]; rfl
  have HH2 : Hid (bl h = lkH (bl s)) := by show _ = _; rw [HH.out, HR2]; rfl
  have HP2 : Hid (bl p = lkP (bl s)) := by show _ = _; rw [HP.out, HR2]; rfl
  have HK2 : Hid (bl k = lkK (bl s)) := HK
  have e2 := HE.out.ext hbb
  have c1 := e2.eText
  clear HH HP HK HR HR2 hr hk hh hp e2
  rw [HI.out, HA.out]
  clear HI HA
  cases hi : lkIs (bl s) with
  | false =>
    have HX : Hid (lkE (bl s) = 1) := by show _ = _; unfold lkE; rw [hi]; rfl
    clear hi
    go_wp2_with fail
    refine bodyPost_ret (results_tmp4 rfl _ _ _) rfl ?_
    exact ⟨⟨k, h, p, by rw [HX.out]; rfl, HH2, HP2, hhh, hpp⟩, hbb⟩
  | true =>
    cases ha : lkAlso (bl s) with
    | false =>
      have HX : Hid (lkE (bl s) = 1) := by show _ = _; unfold lkE; rw [hi, ha]; rfl
      clear hi ha
      go_wp2_with fail
      refine bodyPost_ret (results_tmp4 rfl _ _ _) rfl ?_
      exact ⟨⟨k, h, p, by rw [HX.out]; rfl, HH2, HP2, hhh, hpp⟩, hbb⟩
    | true =>
      have HX := Lib.hid (show lkE (bl s) = if !(kinds.contains (lkK (bl s))) then 4 else if !(partB (lkH (bl s))) then 5 else 0 by unfold lkE; rw [hi, ha]; rfl)
      clear hi ha c1
      go_wp2_with fail
      refine (kinds_any k w2).mono ?_
      rintro e w3 ⟨rfl, hb3⟩
      have hb4 := hbb.trans (hb3.mono hbb.size)
      have e3 := HE.out.ext hb4
      have c1 := e3.eKind
      have c2 := e3.path.name
      rw [HK2.out]
      clear e3
      cases hc : kinds.contains (lkK (bl s)) with
      | false =>
        have HY : Hid (lkE (bl s) = 4) := by show _ = _; rw [HX.out, hc]; rfl
        clear hc HX
        go_wp2_with fail
        refine bodyPost_ret (results_tmp4 rfl _ _ _) rfl ?_
        exact ⟨⟨k, h, p, by rw [HY.out]; rfl, HH2, HP2, hhh, hpp⟩, hb4⟩
      | true =>
        have HY : Hid (lkE (bl s) = if !(partB (lkH (bl s))) then 5 else 0) := by show _ = _; rw [HX.out, hc]; rfl
        clear hc HX c1 c2
        go_wp2_with fail
        refine (part_any h w3 (by omega)).mono ?_
        rintro e w4 ⟨rfl, hb5⟩
        have hb6 := hb4.trans (hb5.mono hb4.size)
        have c2 := (HE.out.ext hb6).path.name
        rw [HH2.out]
        cases hp : partB (lkH (bl s)) with
        | false =>
          have HZ : Hid (lkE (bl s) = 5) := by show _ = _; rw [HY.out, hp]; rfl
          clear hp HY
          go_wp2_with fail
          refine bodyPost_ret (results_tmp4 rfl _ _ _) rfl ?_
          exact ⟨⟨k, h, p, by rw [HZ.out]; rfl, HH2, HP2, hhh, hpp⟩, hb6⟩
        | true =>
          have HZ : Hid (lkE (bl s) = 0) := by show _ = _; rw [HY.out, hp]; rfl
          clear hp HY
          go_wp2_with fail
          refine bodyPost_ret (results_tmp4 rfl _ _ _) rfl ?_
          exact ⟨⟨k, h, p, by rw [HZ.out]; rfl, HH2, HP2, hhh, hpp⟩, hb6⟩
end Go.Proofs.YtgchgdkpipanjaaGreatDoor

namespace Go.Proofs.YtgchgdkpipanjaaGreatDoor
open Go Go.RowKit

set_option maxRecDepth 100000 in
theorem linkCheck_any {E : Nat → Addr} (s : ByteArray) (w : World) (hs : s.size ≤ 1000000) (hE : LEnv E w) :
    Calls Tryz.prog 82 #[.string s] w fun e w' => e = .returned (errV E (linkE (bl s))) ∧ Below w.heap.size w w' := by
  have C := Lib.hid (linkParts_any s w hs hE)
  have HE := Lib.hid hE
  clear hE
  go_enter Tryz.func82, Tryz.ntmps82
  go_wp2_with fail
  refine C.out.mono ?_
  clear C
  rintro e w1 ⟨⟨k, h, p, rfl, HH, HP, hh, hp⟩, hb⟩
  cases hc : lkE (bl s) with
  | succ c =>
    have HX : Hid (linkE (bl s) = c + 1) := by show _ = _; unfold linkE; rw [if_neg (by omega), hc]
    rw [show errV E (c + 1) = sentV E c from rfl]
    clear hc
    go_wp2_with fail
    go_ret
    exact ⟨by rw [HX.out]; rfl, hb⟩
  | zero =>
    have HX : Hid (linkE (bl s) = partsE (bl p)) := by show _ = _; unfold linkE; rw [if_pos hc, HP.out]
    rw [show errV E 0 = .nilIface from rfl]
    have C := Lib.hid (pathCheck_any p w1 (by omega) (HE.out.ext hb).path)
    clear hc
    go_wp2_with fail
    refine C.out.mono ?_
    rintro e w2 ⟨rfl, hb2⟩
    clear C
    go_wp2_with fail
    go_ret
    exact ⟨by rw [HX.out]; rfl, hb.trans (hb2.mono hb.size)⟩

/-- What link.Host hands back. -/
def HostPost (E : Nat → Addr) (s : ByteArray) (w : World) (e : Ending) (w' : World) : Prop :=
  (∃ h : ByteArray, e = .returned (.tuple #[.string h, errV E (linkE (bl s))]) ∧ Hid (bl h = if linkE (bl s) = 0 then lkH (bl s) else [])) ∧ Below w.heap.size w w'

theorem cutPre_any (s p : ByteArray) (w : World) : Calls Tryz.prog 133 #[.string s, .string p] w fun e w' =>
    (∃ d : ByteArray, e = .returned (.tuple #[.string d, .bool (Lib.hasPrefix (bl s) (bl p))]) ∧ Hid (Lib.hasPrefix (bl s) (bl p) = true → bl d = (bl s).drop (bl p).length) ∧ d.size ≤ s.size) ∧ w' = w := by
  refine (Tryz.strings_CutPrefix s p w).mono ?_
  rintro e w' ⟨rfl, rfl⟩
  refine ⟨⟨_, rfl, ?_, ?_⟩, rfl⟩
  · intro h
    show Lib.trimPrefix (bl s) (bl p) = _
    unfold Lib.trimPrefix; rw [if_pos h]
  · rw [← bl_length, ← bl_length]
    show (Lib.trimPrefix (bl s) (bl p)).length ≤ (bl s).length
    unfold Lib.trimPrefix
    split
    · simp
    · exact Nat.le_refl _

/-- What link.Swap hands back. -/
def LinkSwapPost (E : Nat → Addr) (f t s : ByteArray) (w : World) (e : Ending) (w' : World) : Prop :=
  (∃ x : ByteArray, e = .returned (.tuple #[.string x, errV E (swapE (bl f) (bl t) (bl s))]) ∧ Hid (bl x = swapT (bl f) (bl t) (bl s))) ∧ Below w.heap.size w w'

theorem LinkSwapPost.err {E : Nat → Addr} {f t s : ByteArray} {w w' : World} {c : Nat} (h : Hid (swapE (bl f) (bl t) (bl s) = c + 1)) (hb : Below w.heap.size w w') : LinkSwapPost E f t s w (.returned (.tuple #[.string ⟨#[]⟩, sentV E c])) w' :=
  ⟨⟨⟨#[]⟩, by rw [h.out]; rfl, by show _ = _; unfold swapT; rw [h.out]; rfl⟩, hb⟩
theorem LinkSwapPost.ok {E : Nat → Addr} {f t s x : ByteArray} {w w' : World} (h : Hid (swapE (bl f) (bl t) (bl s) = 0)) (hx : Hid (bl x = swapX (bl f) (bl t) (bl s))) (hb : Below w.heap.size w w') : LinkSwapPost E f t s w (.returned (.tuple #[.string x, .nilIface])) w' :=
  ⟨⟨x, by rw [h.out]; rfl, by show _ = _; unfold swapT; rw [h.out, if_pos rfl]; exact hx.out⟩, hb⟩
theorem bl_add (a b : ByteArray) : bl (a ++ b) = bl a ++ bl b := by
  show (a ++ b).data.toList = a.data.toList ++ b.data.toList
  rw [ByteArray.data_append, Array.toList_append]

end Go.Proofs.YtgchgdkpipanjaaGreatDoor
