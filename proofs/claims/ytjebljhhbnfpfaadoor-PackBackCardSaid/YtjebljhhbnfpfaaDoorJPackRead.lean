/- pack.Read: the contract. -/
import Derived.Test.YtjebljhhbnfpfaaDoorJPackOne
import Derived.Test.YtjebljhhbnfpfaaDoorJReadPlainly
import Derived.Test.YtjebljhhbnfpfaaDoorJFiles
namespace Go.Proofs.YtjebljhhbnfpfaaDoor
open Go Go.RowKit

def PReadPost (E : Nat → Addr) (s : ByteArray) (w : World) (e : Ending) (w' : World) : Prop :=
  (∃ v ev : Value, e = .returned (.tuple #[v, ev]) ∧ Hid (FArg w' v (readT (bl s))) ∧ Hid (IsErr E w' ev (readEr (bl s)))) ∧ Below w.heap.size w w'
theorem FArg.nil (w : World) : FArg w (.slice none 0 0) [] := ⟨⟨none, 0, rfl, Nat.le_refl _, Nat.zero_le _, fun i hi => absurd hi (Nat.not_lt_zero _)⟩, fun n c e => by injection e with _ e1 e2; exact ⟨e1.symm, e2.symm⟩⟩

set_option maxHeartbeats 2000000 in
set_option maxRecDepth 100000 in
theorem packRead_any {E : Nat → Addr} (s : ByteArray) (w : World) (hs : s.size ≤ 1000000) (hE : REnv E w) :
    Calls Tryd.prog 6 #[.string s] w (PReadPost E s w) := by
  obtain ⟨i0, hi0, hz0, hz1, hz2⟩ := info_parts Tryd.infoFile
  have HE := Lib.hid hE
  have hsl : (bl s).length = s.size := bl_length s
  go_enter Tryd.func6, Tryd.ntmps6
  by_cases h20 : 20000 < s.size
  · have HX := Lib.hid (readEr_big (s := bl s) (by omega))
    have c1 := hE.1.1.1.eBound
    clear hE
    go_wp2_with fail
    go_quiet (fail)
    go_wp2_with fail
    go_ret2
    exact ⟨⟨_, _, rfl, by show FArg _ _ _; rw [HX.out.2]; exact FArg.nil _, by show IsErr _ _ _ _; rw [HX.out.1]; exact IsErr.base E _ 1 (by decide)⟩, below_drewN _ _ _⟩
  · have HS20 : Hid (¬ 20000 < (bl s).length) := by show ¬ _; rw [hsl]; exact h20
    clear hE
    go_wp2_with fail
    go_loopw [0, 4] (fun sv ov wr => ∃ (x : ByteArray) (acc : List FileB), sv = .string x ∧ Hid (PStep (bl s) acc (bl x)) ∧ Hid (FOwn wr w.heap.size ov acc) ∧ Below w.heap.size w wr) (fun sv _ _ => match sv with | .string x => x.size | _ => 0)
    case atStart => exact ⟨s, [], rfl, PStep.start _, FOwn.nil _ _, Below.refl _ _⟩
    case round =>
      obtain ⟨x, acc, rfl, HP, HO, hb⟩ := hrel
      obtain ⟨oo, oc, rfl⟩ := HO.out.shape
      obtain ⟨hal, hsm, hxs⟩ := HP.out.small (by omega)
      rw [bl_length, hsl] at hxs
      have HSM := Lib.hid hsm
      clear hsm
      cases hx0 : x.toList.isEmpty with
      | true =>
        have hx2 : bl x = [] := by rw [← toList_bl]; exact List.isEmpty_iff.1 hx0
        have HA : Hid (allL (bl s) = (acc, true)) := by have := HP.out; rw [hx2] at this; exact this.done
        have HX := Lib.hid (readEr_all HS20.out HA.out)
        have hfa := HO.out.arg
        have C := Lib.hid (treeCheck_any _ acc wr hfa.1 (by omega) HSM.out (HE.out.ext hb).1.1)
        clear HP HA hfa
        go_wp2_with fail
        refine C.out.mono ?_
        clear C
        rintro e w1 ⟨⟨ev, rfl, HEV⟩, hb1⟩
        have hbb := hb.trans (hb1.mono hb.size)
        have HO1 := Lib.hid (HO.out.ext hb1)
        obtain ⟨er, her⟩ : ∃ er, treeEr acc = er := ⟨_, rfl⟩
        rw [her] at HX HEV
        clear her HO hb1 hb
        by_cases hc : er.code = 0
        · have HRT : Hid (readT (bl s) = acc) := by show _ = _; rw [HX.out.2, if_pos hc]
          obtain rfl : ev = .nilIface := by
            have h := HEV.out
            obtain ⟨c, a⟩ := er
            obtain rfl : c = 0 := hc
            exact h.nil_inv
          clear hc
          go_wp2_with fail
          go_ret2
          exact ⟨⟨_, _, rfl, by show FArg _ _ _; rw [HRT.out]; exact HO1.out.arg, by show IsErr _ _ _ _; rw [HX.out.1]; exact HEV.out⟩, hbb⟩
        · have HRT : Hid (readT (bl s) = []) := by show _ = _; rw [HX.out.2, if_neg hc]
          obtain ⟨te, xv, rfl⟩ := HEV.out.some_inv hc
          clear hc
          go_wp2_with fail
          go_ret2
          exact ⟨⟨_, _, rfl, by show FArg _ _ _; rw [HRT.out]; exact FArg.nil _, by show IsErr _ _ _ _; rw [HX.out.1]; exact HEV.out⟩, hbb⟩
      | false =>
        have hne : bl x ≠ [] := by rw [← toList_bl]; intro h; rw [h] at hx0; cases hx0
        have C := Lib.hid (packOne_any (E := E) x wr (by omega) (HE.out.ext hb))
        go_wp2_with fail
        refine C.out.mono ?_
        clear C
        rintro e w1 ⟨⟨f, r, ok, rfl, HT⟩, hb1⟩
        have hbb := hb.trans (hb1.mono hb.size)
        have HO1 := Lib.hid (HO.out.ext hb1)
        clear HO
        rcases HT.out with ⟨ho, rfl⟩ | ⟨ho, rfl⟩
        · have HP2 := Lib.hid (HP.out.next ho)
          have hlt := pieceL_lt ho
          rw [bl_length, bl_length] at hlt
          clear HT HP ho
          have hal2 : Below w1.heap.size w1 (w1.alloc (.cells #[.string f.path, .bool f.run, .string f.text] 33)) := (Below.refl _ _).alloc (Nat.le_refl _) _
          have hA := heap_alloc_new w1 (.cells #[.string f.path, .bool f.run, .string f.text] 33)
          have a0 : (w1.alloc (.cells #[.string f.path, .bool f.run, .string f.text] 33)).cell? ⟨w1.heap.size, 0, none⟩ = some (.string f.path) := by rw [Lib.cell_of_heap hA]; rfl
          have a1 : (w1.alloc (.cells #[.string f.path, .bool f.run, .string f.text] 33)).cell? ⟨w1.heap.size, 1, none⟩ = some (.bool f.run) := by rw [Lib.cell_of_heap hA]; rfl
          have a2 : (w1.alloc (.cells #[.string f.path, .bool f.run, .string f.text] 33)).cell? ⟨w1.heap.size, 2, none⟩ = some (.string f.text) := by rw [Lib.cell_of_heap hA]; rfl
          have hba : Below w.heap.size w (w1.alloc (.cells #[.string f.path, .bool f.run, .string f.text] 33)) := hbb.trans (hal2.mono hbb.size)
          have HOA := Lib.hid (HO1.out.ext hal2)
          clear HO1 hal2 hA hbb hb1 hb
          go_wp2_with (at_builtin; refine wpList_append_own _ rfl _ _ 22 rfl w.heap.size 33 i0 (.agg #[.string ⟨#[]⟩, .bool false, .string ⟨#[]⟩]) 3 40 Tryd.underlying22 hi0 hz0 hz1 hz2 rfl (by decide) _ _ _ rfl (World.ownsRow.alloc HOA.out _) ⟨w1.heap.size + 1, 0, none⟩ 1 1 (encFile f) rfl rfl ?c1 ?c2 ?c3 ?c4 ?c5 ?_)
          case c1 =>
            intro j u hj
            match j, hj with
            | 0, hj => simp at hj; subst hj; simp [Addr.add]
            | 1, hj => simp at hj; subst hj; simp [Addr.add]
            | 2, hj => simp at hj; subst hj; simp [Addr.add]
          case c2 => intro u hu; simp at hu; rcases hu with rfl | rfl | rfl <;> rfl
          case c3 => rw [maxLen_eq]; omega
          case c4 => omega
          case c5 => have := hba.size; simp at this ⊢; omega
          intro v' w3 hown' hgrow _
          have hown2 : Hid (FOwn w3 w.heap.size v' (acc ++ [f])) := by
            show World.ownsRow _ _ _ _ _ _ _
            simpa using hown'
          have hb3 : Below w.heap.size w w3 := (hba.alloc hba.size _).grown hgrow (by have := hba.size; simp at this ⊢; omega) (fun q hq => (World.ownsRow.lt HOA.out q hq).1)
          clear hown' hgrow HOA hba a0 a1 a2
          go_wp2_with fail
          go_roundw
          case rel => exact ⟨r, acc ++ [f], rfl, HP2, hown2, hb3⟩
          case measure => exact hlt
        · have HX := Lib.hid (readEr_bad HS20.out (HP.out.bad ho hne))
          obtain ⟨wa, hwa⟩ : ∃ wa, w1.alloc (.cells #[.string f.path, .bool f.run, .string f.text] 33) = wa := ⟨_, rfl⟩
          have hba : Below w.heap.size w wa := by rw [← hwa]; exact hbb.alloc hbb.size _
          have c1 := (HE.out.ext hba).1.1.1.eText
          have HWA := Lib.hid hwa
          clear HT HP ho hwa hbb hb1 hb HO1
          go_wp2_with fail
          rw [HWA.out]
          go_region
          all_goals
            go_wp2_with fail
            go_ret2
            refine ⟨⟨_, _, rfl, by show FArg _ _ _; rw [HX.out.2]; exact FArg.nil _, ?_⟩, (hba.alloc hba.size _).drew⟩
            show IsErr _ _ _ _
            rw [HX.out.1]
            exact IsErr.fault E _ 0 (by decide) _ _ ((World.cell?_alloc_at (w := wa) _ _ _ _ rfl).trans rfl) ((World.cell?_alloc_at (w := wa) _ _ _ _ rfl).trans rfl)
end Go.Proofs.YtjebljhhbnfpfaaDoor
