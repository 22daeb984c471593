/- chandlerylaw1.TreeStrips: the walk. -/
import Derived.Test.YtbaflplahaojbaaGreatDoorJRooted
import Derived.Test.YtbaflplahaojbaaGreatDoorJTreeLoops
import Derived.Test.YtbaflplahaojbaaGreatDoorJTreePlains
import Derived.Test.YtbaflplahaojbaaGreatDoorJRefPathed
namespace Go.Proofs.YtbaflplahaojbaaGreatDoor
open Go Go.RowKit

theorem fenv_of {E : Nat → Addr} {w : World} (hE : Env E w) (hm : ∃ m, w.cell? ⟨14, 0, none⟩ = some (.int .i64 m)) : FEnv E w := ⟨hE, ⟨hE.eName, hE.eFull, hm⟩⟩
theorem TreeOk.small {l : List FileB} (h : TreeOk l) : ∀ f ∈ l, SmallF f ∧ f.path.size ≤ 9000 := fun f hf => by
  obtain ⟨h1, h2⟩ := h.each f hf
  have h3 : (bl f.path).length ≤ 78 := by
    have := path_clean h1
    have := cleanT_len this.1
    rwa [(path_clean h1).2] at this
  rw [bl_length] at h3
  exact ⟨⟨by omega, by omega⟩, by omega⟩
theorem FOwn.len0 {w : World} {base : Nat} {v : Value} (h : FOwn w base v []) : ∃ ao cap, v = .slice ao 0 cap := h.shape
theorem FRow.len {w : World} {v : Value} {l : List FileB} (h : FRow w v l) : ∃ ao cap, v = .slice ao l.length cap := by
  obtain ⟨ao, cap, e, _⟩ := h
  exact ⟨ao, cap, e⟩
theorem wf_len {n : Nat} (h : n ≤ 1000000) : (Lit.int .i64 (n : Int)).wf = true := by
  have h1 : IntKind.i64.min = -9223372036854775808 := rfl
  have h2 : IntKind.i64.max = 9223372036854775807 := rfl
  simp [Lit.wf, h1, h2]; omega

set_option maxHeartbeats 4000000 in
set_option maxRecDepth 100000 in
theorem treeStrips_walk {E : Nat → Addr} {w : World} (hE : FEnv E w) (v u : Value) (l m : List FileB) (hv : FArg w v l) (hu : FArg w u m) (a b : ByteArray) :
    Calls Tryz.prog 4 #[v, u, .string a, .string b] w fun e w' => e = .returned (.bool true) ∧ Below w.heap.size w w' := by
  have HE := Lib.hid hE
  have HV := Lib.hid hv
  have HU := Lib.hid hu
  have C := Lib.hid (rooted_any w hE)
  obtain ⟨vo, vc, rfl⟩ := hv.1.len
  obtain ⟨uo, uc, rfl⟩ := hu.1.len
  clear hE hv hu
  go_enter Tryz.func4, Tryz.ntmps4
  go_wp2_with fail
  refine C.out.mono ?_
  clear C
  rintro e w1 ⟨rfl, b1⟩
  have C := Lib.hid (longFiles_any _ l w1 (HV.out.ext b1).1)
  have C2 := Lib.hid (longFiles_any _ m w1 (HU.out.ext b1).1)
  go_wp2_with fail
  refine C.out.mono ?_
  clear C
  rintro e w2 ⟨⟨n, rfl, hn, HN⟩, rfl⟩
  go_wp2_with fail
  refine C2.out.mono ?_
  clear C2
  rintro e w2 ⟨⟨n2, rfl, hn2, HN2⟩, rfl⟩
  by_cases hlong : n = 0 ∧ n2 = 0 ∧ a.size ≤ 100 ∧ b.size ≤ 100
  rotate_left
  · have HB1 := Lib.hid b1
    clear b1 HN HN2
    rcases hn with rfl | rfl
    · rcases hn2 with rfl | rfl
      · by_cases ha : a.size ≤ 100
        · have hb : ¬ b.size ≤ 100 := fun h => hlong ⟨rfl, rfl, ha, h⟩
          have d1 : decide ((100 : Int) < (a.size : Int)) = false := decide_eq_false (by omega)
          have d2 : decide ((100 : Int) < (b.size : Int)) = true := decide_eq_true (by omega)
          clear hlong ha hb
          go_wp2_with fail
          go_ret
          exact ⟨rfl, HB1.out⟩
        · have d1 : decide ((100 : Int) < (a.size : Int)) = true := decide_eq_true (by omega)
          clear hlong ha
          go_wp2_with fail
          go_ret
          exact ⟨rfl, HB1.out⟩
      · clear hlong
        go_wp2_with fail
        go_ret
        exact ⟨rfl, HB1.out⟩
    · rcases hn2 with rfl | rfl
      · clear hlong
        go_wp2_with fail
        go_ret
        exact ⟨rfl, HB1.out⟩
      · clear hlong
        go_wp2_with fail
        go_ret
        exact ⟨rfl, HB1.out⟩
  obtain ⟨rfl, rfl, ha, hb⟩ := hlong
  clear hn hn2
  obtain ⟨hl, hls⟩ := HN.out rfl
  obtain ⟨hm, hms⟩ := HN2.out rfl
  have HS : Hid (∀ f ∈ l, SmallF f ∧ f.path.size ≤ 9000) := fun f hf => by have := hls f hf; exact ⟨⟨by omega, by omega⟩, by omega⟩
  have HSm : Hid (∀ f ∈ m, SmallF f ∧ f.path.size ≤ 9000) := fun f hf => by have := hms f hf; exact ⟨⟨by omega, by omega⟩, by omega⟩
  clear hls hms HN HN2
  have d1 : decide ((100 : Int) < (a.size : Int)) = false := decide_eq_false (by omega)
  have d2 : decide ((100 : Int) < (b.size : Int)) = false := decide_eq_false (by omega)
  have C := Lib.hid (treeGraft_any (.slice none 0 0) _ [] l a w1 (FOwn.nil w1 0).arg (HV.out.ext b1).1 (by decide) (by omega) (fun f hf => by cases hf) (fun f hf => (HS.out f hf).1) (fun f hf => (HS.out f hf).2) (by omega) (HE.out.ext b1))
  go_wp2_with fail
  refine C.out.mono ?_
  clear C d1 d2
  rintro e w2 ⟨⟨xv, ev, rfl, HI, HO⟩, hb2⟩
  have b2 := b1.trans (hb2.mono b1.size)
  by_cases hc : (graftT [] a l).1.code = 0
  rotate_left
  · obtain ⟨t, x, rfl⟩ := IsErr.some_inv HI.out hc
    rw [graft_bad hc] at HO
    obtain ⟨xo, xc, rfl⟩ := FOwn.len0 HO.out
    have HB2 := Lib.hid b2
    clear hc HI HO b2 hb2 b1
    go_wp2_with fail
    go_ret
    exact ⟨rfl, HB2.out⟩
  obtain ⟨hG, hr⟩ := graft_ok hc
  rw [hr] at HI
  obtain rfl := IsErr.nil_inv HI.out
  have HG := Lib.hid hG
  clear hc hr hG HI hb2 b1
  obtain ⟨x, hx⟩ : ∃ x, (graftT [] a l).2 = x := ⟨_, rfl⟩
  rw [hx] at HG HO
  clear hx
  have HXS := Lib.hid (TreeOk.small HG.out.ok)
  have hx30 := HG.out.ok.few
  obtain ⟨xo, xc, rfl⟩ := HO.out.shape
  have C := Lib.hid (refCut_any a 47 w2 (by omega))
  go_wp2_with fail
  refine C.out.mono ?_
  clear C
  rintro e w3 ⟨cv, zs, rfl, HR, HZ, hzl, hb3⟩
  have hzn : zs.length = (cutL 47 (bl a)).length := by rw [← HZ.out, List.length_map]
  have b3 := b2.trans (hb3.mono b2.size)
  have HO3 := Lib.hid (HO.out.ext hb3)
  obtain ⟨co, cc, rfl⟩ : ∃ co cc, cv = .slice co zs.length cc := by
    rcases HR.out with ⟨rfl, rfl⟩ | ⟨q, off, cap, rfl, _⟩
    · exact ⟨_, _, rfl⟩
    · exact ⟨_, _, rfl⟩
  have C := Lib.hid (treeStrip_any _ x (zs.length : Nat) w3 HO3.out.row (by omega) (fun f hf => (HXS.out f hf).1) (wf_len (by omega)) (HE.out.ext b3))
  have HST : Hid (stripTr x (zs.length : Nat) = (⟨0, none⟩, l)) := by show _ = _; rw [hzn]; exact HG.out.strips
  clear HR HZ HO b2 hb3 hzn
  go_wp2_with fail
  refine C.out.mono ?_
  clear C
  rintro e w4 ⟨⟨yv, ev, rfl, HI, HO⟩, hb4⟩
  rw [HST.out] at HI HO
  obtain rfl := IsErr.nil_inv HI.out
  have b4 := b3.trans (hb4.mono b3.size)
  have HO4 := Lib.hid (HO3.out.ext hb4)
  have C := Lib.hid (treeSame_any (l := l) (m := l) HO.out.row (HV.out.ext b4).1 (by omega))
  rw [decide_eq_true (show l = l from rfl)] at C
  clear HI HST HO3 b3 hb4
  go_wp2_with fail
  refine C.out.mono ?_
  clear C
  rintro e w5 ⟨rfl, hb5⟩
  have b5 := b4.trans (hb5.mono b4.size)
  have HO5 := Lib.hid (HO4.out.ext hb5)
  clear HO4 HO b4 hb5
  by_cases hab : a = b
  · subst hab
    have e0 : (a.toList == a.toList) = true := beq_self_eq_true _
    have HB5 := Lib.hid b5
    clear b5
    go_wp2_with fail
    go_ret
    exact ⟨rfl, HB5.out⟩
  have e0 : (a.toList == b.toList) = false := by rw [str_eqb]; exact decide_eq_false hab
  have HAB := Lib.hid hab
  have C := Lib.hid (pathIn_any a b w5 (by omega) (by omega) (HE.out.ext b5).2)
  clear hab
  go_wp2_with fail
  refine C.out.mono ?_
  clear C
  rintro e w6 ⟨rfl, hb6⟩
  have b6 := b5.trans (hb6.mono b5.size)
  have HO6 := Lib.hid (HO5.out.ext hb6)
  clear HO5 b5 hb6
  cases hin : inB (bl a) (bl b) with
  | true =>
    have HB6 := Lib.hid b6
    clear b6 hin
    go_wp2_with fail
    go_ret
    exact ⟨rfl, HB6.out⟩
  | false =>
  have HIN := Lib.hid hin
  have C := Lib.hid (pathIn_any b a w6 (by omega) (by omega) (HE.out.ext b6).2)
  clear hin
  go_wp2_with fail
  refine C.out.mono ?_
  clear C
  rintro e w7 ⟨rfl, hb7⟩
  have b7 := b6.trans (hb7.mono b6.size)
  have HO7 := Lib.hid (HO6.out.ext hb7)
  clear HO6 b6 hb7
  cases hin : inB (bl b) (bl a) with
  | true =>
    have HB7 := Lib.hid b7
    clear b7 hin
    go_wp2_with fail
    go_ret
    exact ⟨rfl, HB7.out⟩
  | false =>
  have HIN2 := Lib.hid hin
  clear hin
  have C := Lib.hid (treeGraft_any _ _ x m b w7 HO7.out.arg (HU.out.ext b7).1 (by omega) (by omega) (fun f hf => (HXS.out f hf).1) (fun f hf => (HSm.out f hf).1) (fun f hf => (HSm.out f hf).2) (by omega) (HE.out.ext b7))
  go_wp2_with fail
  refine C.out.mono ?_
  clear C e0
  rintro e w8 ⟨⟨zv, ev, rfl, HI, HO⟩, hb8⟩
  have b8 := b7.trans (hb8.mono b7.size)
  by_cases hc : (graftT x b m).1.code = 0
  rotate_left
  · obtain ⟨t, y, rfl⟩ := IsErr.some_inv HI.out hc
    rw [graft_bad hc] at HO
    obtain ⟨zo, zc, rfl⟩ := FOwn.len0 HO.out
    have HB8 := Lib.hid b8
    clear hc HI HO b8 hb8 b7
    go_wp2_with fail
    go_ret
    exact ⟨rfl, HB8.out⟩
  obtain ⟨hG2, hr⟩ := graft_ok hc
  rw [hr] at HI
  obtain rfl := IsErr.nil_inv HI.out
  have HT := Lib.hid (HG.out.two hG2 HAB.out HIN.out HIN2.out)
  have hzok := Lib.hid hG2.ok
  clear hc hr hG2 HI hb8 b7
  obtain ⟨z, hz⟩ : ∃ z, (graftT x b m).2 = z := ⟨_, rfl⟩
  rw [hz] at HT HO hzok
  clear hz
  have HZS := Lib.hid (TreeOk.small hzok.out)
  have hz30 := hzok.out.few
  obtain ⟨zo, zc, rfl⟩ := HO.out.shape
  have C := Lib.hid (treeUnder_any _ z a w8 HO.out.row (by omega) (fun f hf => (HZS.out f hf).1) (by omega) (HE.out.ext b8))
  rw [underT_of hzok.out, HT.out.1] at C
  go_wp2_with fail
  refine C.out.mono ?_
  clear C
  rintro e w9 ⟨⟨pv, ev, rfl, HI, HP⟩, hb9⟩
  obtain rfl := IsErr.nil_inv HI.out
  have b9 := b8.trans (hb9.mono b8.size)
  have HO9 := Lib.hid (HO.out.ext hb9)
  have C := Lib.hid (treeUnder_any _ z b w9 HO9.out.row (by omega) (fun f hf => (HZS.out f hf).1) (by omega) (HE.out.ext b9))
  rw [underT_of hzok.out, HT.out.2] at C
  clear HI HO b8 hb9
  go_wp2_with fail
  refine C.out.mono ?_
  clear C
  rintro e w10 ⟨⟨qv, ev, rfl, HI, HQ⟩, hb10⟩
  obtain rfl := IsErr.nil_inv HI.out
  have b10 := b9.trans (hb10.mono b9.size)
  have HP10 := Lib.hid (HP.out.ext hb10)
  have C := Lib.hid (treeSame_any (l := l) (m := l) HP10.out.row (HV.out.ext b10).1 (by omega))
  rw [decide_eq_true (show l = l from rfl)] at C
  clear HI HO9 b9 hb10 HP
  go_wp2_with fail
  refine C.out.mono ?_
  clear C
  rintro e w11 ⟨rfl, hb11⟩
  have b11 := b10.trans (hb11.mono b10.size)
  have HQ11 := Lib.hid (HQ.out.ext hb11)
  have C := Lib.hid (treeSame_any (l := m) (m := m) HQ11.out.row (HU.out.ext b11).1 (by omega))
  rw [decide_eq_true (show m = m from rfl)] at C
  clear HP10 b10 hb11 HQ
  go_wp2_with fail
  refine C.out.mono ?_
  clear C
  rintro e w12 ⟨rfl, hb12⟩
  have b12 := Lib.hid (b11.trans (hb12.mono b11.size))
  clear b11 hb12
  go_wp2_with fail
  go_ret
  exact ⟨rfl, b12.out⟩
end Go.Proofs.YtbaflplahaojbaaGreatDoor
