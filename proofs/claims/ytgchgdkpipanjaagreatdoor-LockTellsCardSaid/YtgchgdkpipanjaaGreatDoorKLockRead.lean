/- package lock: Read by its contract. -/
import Derived.Test.YtgchgdkpipanjaaGreatDoorKLockAll
import Derived.Test.YtgchgdkpipanjaaGreatDoorKWantsUp
import Derived.Test.YtgchgdkpipanjaaGreatDoorKWantAppends
import Derived.Test.YtgchgdkpipanjaaGreatDoorKRowed
namespace Go.Proofs.YtgchgdkpipanjaaGreatDoor
open Go Go.RowKit

theorem line_cases (s : List UInt8) : ((10 : UInt8) ∉ s ∧ Lib.cut s [10] = (s, [], false)) ∨ ∃ a r, s = a ++ 10 :: r ∧ (10 : UInt8) ∉ a ∧ Lib.cut s [10] = (a, r, true) := by
  by_cases h : (10 : UInt8) ∈ s
  · obtain ⟨a, r, e, hn⟩ := List.eq_append_cons_of_mem h
    exact .inr ⟨a, r, e, hn, by rw [e]; exact cut_hit hn⟩
  · exact .inl ⟨h, cut_miss h⟩
theorem readW_small {s : List UInt8} (h : (readW s).1 = 0) : (readW s).2.name.size ≤ s.length ∧ (readW s).2.url.size ≤ s.length ∧ (readW s).2.kind.size ≤ s.length := by
  have hz : ∀ z ∈ cutL 32 s, z.length ≤ s.length := fun z hz => cutL_size 32 s z hz
  unfold readW at h ⊢
  cases hf : fiveW (cutL 32 s) with
  | none => rw [hf] at h; cases h
  | some x =>
    rw [hf] at h
    have h0 : wantE x = 0 := by
      by_cases h1 : wantE x ≠ 0
      · have h2 : (if wantE x ≠ 0 then (wantE x, zeroW) else (0, x)).1 = 0 := h
        rw [if_pos h1] at h2
        exact absurd h2 h1
      · simpa using h1
    show ((if wantE x ≠ 0 then (wantE x, zeroW) else (0, x)).2).name.size ≤ _ ∧ ((if wantE x ≠ 0 then (wantE x, zeroW) else (0, x)).2).url.size ≤ _ ∧ ((if wantE x ≠ 0 then (wantE x, zeroW) else (0, x)).2).kind.size ≤ _
    rw [if_neg (by omega)]
    unfold fiveW at hf
    split at hf
    · rename_i a b c d e hc
      split at hf
      · rename_i n m _ _
        obtain rfl := Option.some.inj hf
        rw [hc] at hz
        refine ⟨?_, ?_, ?_⟩
        · have := hz a (by simp); show a.toArray.size ≤ _; rw [List.size_toArray]; exact this
        · have := hz b (by simp); show b.toArray.size ≤ _; rw [List.size_toArray]; exact this
        · have := hz c (by simp); show c.toArray.size ≤ _; rw [List.size_toArray]; exact this
      · cases hf
    · cases hf
theorem readW_le' (s : List UInt8) : (readW s).1 ≤ 13 := by
  unfold readW
  split
  · exact Nat.le_of_ble_eq_true rfl
  · split
    · exact wantE_le _
    · exact Nat.zero_le _
/-- What was read, and what is to come. -/
def LStep (s : List UInt8) (acc : List WantB) (k : Nat) (x : List UInt8) : Prop :=
  (linesW 0 (cutL 10 s)).1 = (linesW k (cutL 10 x)).1 ∧ (linesW 0 (cutL 10 s)).2 = acc ++ (linesW k (cutL 10 x)).2
theorem LStep.done {s : List UInt8} {acc : List WantB} {k : Nat} (h : LStep s acc k []) : readLk s = if (lockEr acc).code ≠ 0 then (lockEr acc, []) else (⟨0, none⟩, acc) := by
  unfold LStep at h
  rw [linesW_nil, List.append_nil] at h
  unfold readLk
  rw [h.1, h.2, if_neg (by simp)]
theorem LStep.bad {s : List UInt8} {acc : List WantB} {k c : Nat} {x : List UInt8} (h : LStep s acc k x) (h2 : (linesW k (cutL 10 x)).1 = ⟨c + 1, some (k : Int)⟩) : readLk s = (⟨c + 1, some (k : Int)⟩, []) := by
  unfold readLk
  rw [h.1, h2, if_pos (by simp)]
theorem LStep.next {s : List UInt8} {acc : List WantB} {k : Nat} {a r : List UInt8} (h : LStep s acc k (a ++ 10 :: r)) (hn : (10 : UInt8) ∉ a) (h0 : (readW a).1 = 0) : LStep s (acc ++ [(readW a).2]) (k + 1) r := by
  unfold LStep at h ⊢
  rw [linesW_line k hn, if_neg (by omega)] at h
  rw [List.append_assoc]
  exact h

set_option maxHeartbeats 4000000 in
set_option maxRecDepth 100000 in
theorem lockRead_any {E : Nat → Addr} (s : ByteArray) (w : World) (hs : s.size ≤ 30000) (hE : REnv E w) :
    Calls Tryz.prog 11 #[.string s] w (LSetPost E (readLk (bl s)) w) := by
  have HE := Lib.hid hE
  have hsl : (bl s).length = s.size := bl_length s
  clear hE
  go_enter Tryz.func11, Tryz.ntmps11
  go_wp2_with fail
  go_loopw [0, 4, 5] (fun sv ov iv wr => ∃ (x : ByteArray) (acc : List WantB) (k : Nat), sv = .string x ∧ iv = .int .i64 k ∧ k + x.size ≤ s.size ∧ acc.length ≤ k ∧ Hid (LStep (bl s) acc k (bl x)) ∧ Hid (∀ f ∈ acc, SmallW f) ∧ Hid (WOwn wr w.heap.size ov acc) ∧ Below w.heap.size w wr) (fun sv _ _ _ => match sv with | .string x => x.size | _ => 0)
  case atStart => exact ⟨s, [], 0, rfl, rfl, by omega, Nat.le_refl _, ⟨rfl, rfl⟩, (fun f h => by cases h), WOwn.nil _ _, Below.refl _ _⟩
  case round =>
    obtain ⟨x, acc, k, rfl, rfl, hkx, hak, HP, HSM, HO, hb⟩ := hrel
    obtain ⟨oo, oc, rfl⟩ := HO.out.shape
    cases hx0 : x.toList.isEmpty with
    | true =>
      have hx2 : bl x = [] := by rw [← toList_bl]; exact List.isEmpty_iff.1 hx0
      have HX := Lib.hid (by have := HP.out; rw [hx2] at this; exact this.done)
      have C := Lib.hid (lockCheck_any _ acc wr HO.out.row (by omega) HSM.out (HE.out.ext hb).1.1)
      clear HP hx2
      go_wp2_with fail
      refine C.out.mono ?_
      clear C
      rintro e w1 ⟨⟨ev, rfl, HEV⟩, hb1⟩
      have hbb := hb.trans (hb1.mono hb.size)
      have HO1 := Lib.hid (HO.out.ext hb1)
      by_cases hz : (lockEr acc).code = 0
      · have HY : Hid (readLk (bl s) = (⟨0, none⟩, acc)) := by show _ = _; rw [HX.out, if_neg (by rw [hz]; simp)]
        obtain rfl : ev = .nilIface := HEV.out.nil0 hz
        clear hz HX
        go_wp2_with fail
        go_ret2
        rw [HY.out]
        exact ⟨⟨_, _, rfl, .inl ⟨rfl, rfl⟩, HO1⟩, hbb⟩
      · have HY : Hid (readLk (bl s) = (lockEr acc, [])) := by show _ = _; rw [HX.out, if_pos hz]
        obtain ⟨te, xv, rfl⟩ := HEV.out.some_inv hz
        clear hz HX
        go_wp2_with fail
        go_ret2
        rw [HY.out]
        exact LSetPost.none HEV hbb
    | false =>
      have hne : bl x ≠ [] := by rw [← toList_bl]; intro h; rw [h] at hx0; cases hx0
      have C := Lib.hid (strCut_any x ⟨#[10]⟩ wr (by omega) (HE.out.ext hb).1.1.2.max)
      have HNE := Lib.hid hne
      clear hne
      go_wp2_with fail
      refine C.out.mono ?_
      clear C
      rintro e w1 ⟨⟨a, r, c, rfl, HC, ha, hr⟩, hb1⟩
      have B1 := Lib.hid (hb.trans (hb1.mono hb.size))
      have HO1 := Lib.hid (HO.out.ext hb1)
      clear hb hb1 HO hx0
      cases c with
      | false =>
        have HL : Hid (readLk (bl s) = (⟨0 + 1, some (k : Int)⟩, [])) := by
          rcases line_cases (bl x) with ⟨h1, _⟩ | ⟨a', r', _, _, h3⟩
          · exact HP.out.bad (c := 0) (by rw [linesW_last k HNE.out h1])
          · have h4 := HC.out
            rw [show bl ⟨#[10]⟩ = [10] from rfl, h3] at h4
            simp at h4
        have c1 := (HE.out.ext B1.out).1.1.1.eText
        clear HC HP HSM HO1
        go_wp2_with fail
        go_region
        all_goals
          go_wp2_with fail
          go_ret2
          rw [HL.out]
          refine LSetPost.none ?_ (B1.out.alloc B1.out.size _).drew
          show IsErr _ _ _ _
          exact IsErr.fault E _ 0 (by decide) _ _ ((World.cell?_alloc_at (w := w1) _ _ _ _ rfl).trans rfl) ((World.cell?_alloc_at (w := w1) _ _ _ _ rfl).trans rfl)
      | true =>
        have HLN : Hid (bl x = bl a ++ 10 :: bl r ∧ (10 : UInt8) ∉ bl a) := by
          rcases line_cases (bl x) with ⟨_, h3⟩ | ⟨a', r', h1, h2, h3⟩
          · have h4 := HC.out
            rw [show bl ⟨#[10]⟩ = [10] from rfl, h3] at h4
            simp at h4
          · have h4 := HC.out
            rw [show bl ⟨#[10]⟩ = [10] from rfl, h3] at h4
            simp only [Prod.mk.injEq, and_true] at h4
            rw [h4.1, h4.2] at h1
            rw [h4.1] at h2
            exact ⟨h1, h2⟩
        have hxr : x.size = a.size + 1 + r.size := by
          have := congrArg List.length HLN.out.1
          rw [List.length_append, List.length_cons, bl_length, bl_length, bl_length] at this
          omega
        have C := Lib.hid (wantRead_any a w1 (by omega) (HE.out.ext B1.out))
        clear HC HNE
        go_wp2_with fail
        refine C.out.mono ?_
        clear C
        rintro e w2 ⟨rfl, hb2⟩
        obtain ⟨rr, hrr⟩ : ∃ rr, readW (bl a) = rr := ⟨_, rfl⟩
        have hle := readW_le' (bl a)
        have HRR := Lib.hid hrr
        rw [hrr] at hle ⊢
        clear hrr
        obtain ⟨rc, y⟩ := rr
        rw [show wV ((rc, y) : Nat × WantB).2 = .agg #[.string y.name, .string y.url, .string y.kind, .int .i64 y.strip, .int .i64 y.sum] from rfl, show errV E ((rc, y) : Nat × WantB).1 = errV E rc from rfl]
        have B2 := Lib.hid (B1.out.trans (hb2.mono B1.out.size))
        have HO2 := Lib.hid (HO1.out.ext hb2)
        obtain ⟨pf, hpf⟩ : ∃ pf, w2.heap.size = pf := ⟨_, rfl⟩
        obtain ⟨wa, hwa⟩ : ∃ wa, w2.alloc (.cells #[.string y.name, .string y.url, .string y.kind, .int .i64 y.strip, .int .i64 y.sum] 41) = wa := ⟨_, rfl⟩
        have hal : Below w2.heap.size w2 wa := by rw [← hwa]; exact (Below.refl _ _).alloc (Nat.le_refl _) _
        have BX := Lib.hid (show WBox wa pf y by rw [← hwa, ← hpf]; exact WBox.new w2 y)
        have Ba := Lib.hid (B2.out.trans (hal.mono B2.out.size))
        have HOa := Lib.hid (HO2.out.ext hal)
        have HPF := Lib.hid hpf
        have HWA := Lib.hid hwa
        clear hal hpf hwa hb2 B1 B2 HO1 HO2
        go_upto_region 9 with fail
        rw [HWA.out, HPF.out]
        cases rc with
        | succ c =>
          have HL : Hid (readLk (bl s) = (⟨c + 1, some (k : Int)⟩, [])) := by
            refine HP.out.bad ?_
            rw [HLN.out.1, linesW_line k HLN.out.2, HRR.out, if_pos (by simp)]
          have hc13 : c < 13 := by have : c + 1 ≤ 13 := hle; omega
          rw [show errV E (c + 1) = sentV E c from rfl]
          clear HP HSM HLN HRR hle
          go_wp2_with fail
          go_ret2
          rw [HL.out]
          refine LSetPost.none ?_ (Ba.out.alloc Ba.out.size _)
          show IsErr _ _ _ _
          exact IsErr.fault E _ c hc13 _ _ ((World.cell?_alloc_at (w := wa) _ _ _ _ rfl).trans rfl) ((World.cell?_alloc_at (w := wa) _ _ _ _ rfl).trans rfl)
        | zero =>
          have HP2 : Hid (LStep (bl s) (acc ++ [y]) (k + 1) (bl r)) := by
            have h1 := HP.out
            rw [HLN.out.1] at h1
            have h2 := h1.next HLN.out.2 (by rw [HRR.out])
            rw [HRR.out] at h2; exact h2
          have HSM2 : Hid (∀ f ∈ acc ++ [y], SmallW f) := fun f hf => by
            rcases List.mem_append.1 hf with h | h
            · exact HSM.out f h
            · obtain rfl := List.mem_singleton.1 h
              have := readW_small (s := bl a) (by rw [HRR.out])
              rw [HRR.out, bl_length] at this
              have t1 : f.name.size ≤ a.size := this.1
              have t2 : f.url.size ≤ a.size := this.2.1
              have t3 : f.kind.size ≤ a.size := this.2.2
              exact ⟨by omega, by omega, by omega⟩
          rw [show errV E 0 = .nilIface from rfl]
          clear HP HSM HLN HRR hle
          obtain ⟨c0, c1, c2, c3, c4⟩ := BX.out.cells
          go_wp2_with (at_builtin; refine wpList_append_wants rfl _ _ rfl w.heap.size (.slice oo acc.length oc) acc rfl (HOa.out.ext ((Below.refl _ _).alloc (Nat.le_refl _) _)) _ [y] rfl (WSrc.one wa y _) (by simp; omega) (Nat.le_trans Ba.out.size (by simp)) ?_)
          intro ov4 w4 HO4 HB4'
          have B4 := Lib.hid (Ba.out.trans ((HB4'.out wa ((Below.refl w.heap.size wa).alloc Ba.out.size _))))
          clear HB4' c0 c1 c2 c3 c4 BX HOa
          go_wp2_with fail
          go_roundw
          case rel => exact ⟨r, acc ++ [y], k + 1, rfl, by go_num, by omega, by simp; omega, HP2, HSM2, HO4, B4.out⟩
          case measure => show r.size < x.size; omega
end Go.Proofs.YtgchgdkpipanjaaGreatDoor
