/- chandlerylaw1.TreeGrafts: the walk. -/
import Derived.Test.YtbaflplahaojbaaGreatDoorJTreeStripsLaw
import Derived.Test.YtbaflplahaojbaaGreatDoorJTreeDrops
import Derived.Test.YtbaflplahaojbaaGreatDoorJLongFiles
namespace Go.Proofs.YtbaflplahaojbaaGreatDoor
open Go Go.RowKit

/-- What the law's second argument of files says of a world. -/
def Boxes (w : World) (tb : Nat) (x : FileB) : Prop := w.heap[tb]? = some (.cells (encFile x).toArray 24 (0, 0))
theorem Boxes.ext {w w' : World} {tb : Nat} {x : FileB} (h : Boxes w tb x) (hb : Below w.heap.size w w') : Boxes w' tb x := (hb.block tb (Array.getElem?_eq_some_iff.1 h).1).trans h
theorem Boxes.cells {w : World} {tb : Nat} {x : FileB} (h : Boxes w tb x) : w.cell? ⟨tb, 0, none⟩ = some (.string x.path) ∧ w.cell? ⟨tb, 1, none⟩ = some (.bool x.run) ∧ w.cell? ⟨tb, 2, none⟩ = some (.string x.text) :=
  ⟨by rw [Lib.cell_of_heap h]; rfl, by rw [Lib.cell_of_heap h]; rfl, by rw [Lib.cell_of_heap h]; rfl⟩

set_option maxHeartbeats 4000000 in
set_option maxRecDepth 100000 in
theorem treeGrafts_walk {E : Nat → Addr} {w : World} (hE : FEnv E w) (v u : Value) (l m : List FileB) (hv : FArg w v l) (hu : FArg w u m) (d : ByteArray) (x : FileB) :
    Calls Tryz.prog 3 #[v, u, .string d, .agg (encFile x).toArray] w fun e w' => e = .returned (.bool true) ∧ Below w.heap.size w w' := by
  have HE := Lib.hid hE
  have HV := Lib.hid hv
  have HU := Lib.hid hu
  obtain ⟨vo, vc, rfl⟩ := hv.1.len
  obtain ⟨uo, uc, rfl⟩ := hu.1.len
  have mixed : Tryz.prog.follows .mixedOrders = true := by kernel_rfl
  obtain ⟨tb, htb⟩ : ∃ tb, w.heap.size = tb := ⟨_, rfl⟩
  have hB : Below w.heap.size w (w.alloc (.cells (encFile x).toArray 24)) := (Below.refl _ w).alloc (Nat.le_refl _) _
  have hT : Boxes (w.alloc (.cells (encFile x).toArray 24)) tb x := by rw [← htb]; exact heap_alloc_new w _
  obtain ⟨w0, hw0⟩ : ∃ w0, w.alloc (.cells (encFile x).toArray 24) = w0 := ⟨_, rfl⟩
  rw [hw0] at hB hT
  have C := Lib.hid (rooted_any w0 (HE.out.ext hB))
  have HW0 := Lib.hid hw0
  have HTB := Lib.hid htb
  have HT := Lib.hid hT
  clear hE hv hu hw0 htb hT
  go_enter Tryz.func3, Tryz.ntmps3
  go_wp2_with fail
  rw [HW0.out, HTB.out]
  refine C.out.mono ?_
  clear C
  rintro e w1 ⟨rfl, hb1⟩
  have B1 := Lib.hid (hB.trans (hb1.mono hB.size))
  have T1 := Lib.hid (HT.out.ext hb1)
  clear HT hB hb1
  have V1 := Lib.hid (HV.out.ext B1.out)
  have U1 := Lib.hid (HU.out.ext B1.out)
  obtain ⟨c0, c1, c2⟩ := T1.out.cells
  obtain ⟨n1, hn1⟩ : ∃ n1, longN l = n1 := ⟨_, rfl⟩
  obtain ⟨n2, hn2⟩ : ∃ n2, longN m = n2 := ⟨_, rfl⟩
  obtain ⟨n3, hn3⟩ : ∃ n3, longN [x] = n3 := ⟨_, rfl⟩
  have hb1 : n1 ≤ 1 := by rw [← hn1]; exact longN_le l
  have hb2 : n2 ≤ 1 := by rw [← hn2]; exact longN_le m
  have hb3 : n3 ≤ 1 := by rw [← hn3]; exact longN_le [x]
  have N1 := Lib.hid hn1
  have N2 := Lib.hid hn2
  have N3 := Lib.hid hn3
  clear hn1 hn2 hn3
  go_upto_region 2 with fail
  go_cut [40] from 21 (fun s wx => ∃ bb : Bool, s = .bool bb ∧ Hid (bb = (decide (0 < n1 + n2 + n3) || decide (100 < d.size))) ∧ Hid (Below w1.heap.size w1 wx))
  case first => as_aux_lemma =>
    have L1 : Hid (∀ W, Below w1.heap.size w1 W → Calls Tryz.prog 7 #[.slice vo l.length vc] W fun e w' => e = .returned (.int .i64 n1) ∧ W = w') := fun W hW => by
      have := longFiles_exact _ l W (V1.out.ext hW).1
      rw [N1.out] at this; exact this
    have L2 : Hid (∀ W, Below w1.heap.size w1 W → Calls Tryz.prog 7 #[.slice uo m.length uc] W fun e w' => e = .returned (.int .i64 n2) ∧ W = w') := fun W hW => by
      have := longFiles_exact _ m W (U1.out.ext hW).1
      rw [N2.out] at this; exact this
    have L3 : Hid (∀ W h, W.heap[h]? = some (.cells (encFile x).toArray 24 (0, 0)) → Calls Tryz.prog 7 #[.slice (some ⟨h, 0, none⟩) 1 1] W fun e w' => e = .returned (.int .i64 n3) ∧ W = w') := fun W h hh => by
      have hr : FRow W (.slice (some ⟨h, 0, none⟩) 1 1) [x] := ⟨_, 1, rfl, Nat.le_refl _, by rw [maxLen_eq]; decide, fun i hi => ⟨h, 0, rfl, (Array.getElem?_eq_some_iff.1 hh).1, fun k hk => by
        obtain rfl : k = 0 := by simpa using hk
        exact ⟨by rw [Lib.cell_of_heap hh]; rfl, by rw [Lib.cell_of_heap hh]; rfl, by rw [Lib.cell_of_heap hh]; rfl⟩⟩⟩
      have := longFiles_exact _ [x] W hr
      rw [N3.out] at this; exact this
    have e12 : IntKind.i64.wrap ((n1 : Int) + (n2 : Int)) = (n1 : Int) + (n2 : Int) := by rw [IntKind.wrap_i64]; omega
    have e123 : IntKind.i64.wrap ((n1 : Int) + (n2 : Int) + (n3 : Int)) = (n1 : Int) + (n2 : Int) + (n3 : Int) := by rw [IntKind.wrap_i64]; omega
    by_cases hlong : 0 < n1 + n2 + n3
    · have d0 : decide ((0 : Int) < (n1 : Int) + (n2 : Int) + (n3 : Int)) = true := decide_eq_true (by omega)
      first
        | (go_region_with
        (first
          | (go_at_call_of 7 (Value.slice vo l.length vc); refine (L1.out _ (by first | exact (Below.refl _ _).drew | exact ((Below.refl _ _).drew).alloc (Nat.le_refl _) _ | exact ((Below.refl _ _).alloc (Nat.le_refl _) _).drew)).mono ?_; rintro e w' ⟨rfl, rfl⟩)
          | (go_at_call_of 7 (Value.slice uo m.length uc); refine (L2.out _ (by first | exact (Below.refl _ _).drew | exact ((Below.refl _ _).drew).alloc (Nat.le_refl _) _ | exact ((Below.refl _ _).alloc (Nat.le_refl _) _).drew)).mono ?_; rintro e w' ⟨rfl, rfl⟩)
          | (go_at_call 7; refine (L3.out _ _ (by first | exact heap_alloc_new _ _ | exact heap_alloc_new (World.drew _) _)).mono ?_; rintro e w' ⟨rfl, rfl⟩)))
        | fail
      all_goals
        go_wp2_with fail
        go_meet
        case rel =>
          refine ⟨_, rfl, ?_, ((Below.refl _ w1).alloc (Nat.le_refl _) _).drew⟩
          show _ = _
          rw [decide_eq_true hlong]; rfl
    · have d0 : decide ((0 : Int) < (n1 : Int) + (n2 : Int) + (n3 : Int)) = false := decide_eq_false (by omega)
      go_region_held3 (fun W : World => W.cell? ⟨tb, 0, none⟩ = some (.string x.path) ∧ W.cell? ⟨tb, 1, none⟩ = some (.bool x.run) ∧ W.cell? ⟨tb, 2, none⟩ = some (.string x.text)) (go_keep)
        (first
          | (go_at_call_of 7 (Value.slice vo l.length vc); refine (L1.out _ (by first | exact (Below.refl _ _).drew | exact ((Below.refl _ _).drew).alloc (Nat.le_refl _) _ | exact ((Below.refl _ _).alloc (Nat.le_refl _) _).drew)).mono ?_; rintro e w' ⟨rfl, rfl⟩)
          | (go_at_call_of 7 (Value.slice uo m.length uc); refine (L2.out _ (by first | exact (Below.refl _ _).drew | exact ((Below.refl _ _).drew).alloc (Nat.le_refl _) _ | exact ((Below.refl _ _).alloc (Nat.le_refl _) _).drew)).mono ?_; rintro e w' ⟨rfl, rfl⟩)
          | (go_at_call 7; refine (L3.out _ _ (by first | exact heap_alloc_new _ _ | exact heap_alloc_new (World.drew _) _)).mono ?_; rintro e w' ⟨rfl, rfl⟩))
      all_goals
        go_wp2_with fail
        go_meet
        case rel =>
          refine ⟨_, rfl, ?_, ((Below.refl _ w1).alloc (Nat.le_refl _) _).drew⟩
          show _ = _
          rw [decide_eq_false hlong, Bool.false_or]
          exact decide_eq_decide.2 (by omega)
  case rest => as_aux_lemma =>
    obtain ⟨bb, rfl, HQ, HB2⟩ := hcut
    have B2 := Lib.hid (B1.out.trans (HB2.out.mono B1.out.size))
    have T2 := Lib.hid (T1.out.ext HB2.out)
    clear B1 T1 V1 U1 HB2 c0 c1 c2
    cases bb with
    | true =>
      clear HQ
      go_wp2_with fail
      go_ret
      exact ⟨rfl, B2.out⟩
    | false =>
    have hq := HQ.out.symm
    rw [Bool.or_eq_false_iff] at hq
    have hn0 := of_decide_eq_false hq.1
    have hd0 := of_decide_eq_false hq.2
    have z1 := longN_zero (l := l) (by rw [N1.out]; omega)
    have z2 := longN_zero (l := m) (by rw [N2.out]; omega)
    have z3 := longN_zero (l := [x]) (by rw [N3.out]; omega)
    have S1 : Hid (∀ f ∈ l, SmallF f ∧ f.path.size ≤ 9000) := fun f hf => by have := z1.2 f hf; exact ⟨⟨by omega, by omega⟩, by omega⟩
    have S2 : Hid (∀ f ∈ m, SmallF f ∧ f.path.size ≤ 9000) := fun f hf => by have := z2.2 f hf; exact ⟨⟨by omega, by omega⟩, by omega⟩
    have S3 : Hid (SmallF x) := by have := z3.2 x (List.mem_singleton.2 rfl); exact ⟨by omega, by omega⟩
    have hl31 := z1.1
    have hm31 := z2.1
    clear z1 z2 z3 hq HQ N1 N2 N3
    have C := Lib.hid (treeCheck_any _ l wc (HV.out.ext B2.out).1 (by omega) (fun f hf => (S1.out f hf).1) (HE.out.ext B2.out))
    go_wp2_with fail
    refine C.out.mono ?_
    clear C
    rintro e w3 ⟨⟨ev, rfl, HI⟩, hb3⟩
    have B3 := Lib.hid (B2.out.trans (hb3.mono B2.out.size))
    have T3 := Lib.hid (T2.out.ext hb3)
    clear hb3 B2 T2
    by_cases hz : (treeEr l).code = 0
    rotate_left
    · obtain ⟨t, y, rfl⟩ := IsErr.some_inv HI.out hz
      clear hz HI
      go_wp2_with fail
      go_ret
      exact ⟨rfl, B3.out⟩
    obtain rfl : ev = .nilIface := IsErr.nil_inv (a := (treeEr l).at?) (by have := HI.out; rw [show treeEr l = ⟨(treeEr l).code, (treeEr l).at?⟩ from rfl, hz] at this; exact this)
    have OKl := Lib.hid ((treeOk_iff l).1 hz)
    have C := Lib.hid (treeCheck_any _ m w3 (HU.out.ext B3.out).1 (by omega) (fun f hf => (S2.out f hf).1) (HE.out.ext B3.out))
    clear hz HI
    go_wp2_with fail
    refine C.out.mono ?_
    clear C
    rintro e w4 ⟨⟨ev, rfl, HI⟩, hb4⟩
    have B4 := Lib.hid (B3.out.trans (hb4.mono B3.out.size))
    have T4 := Lib.hid (T3.out.ext hb4)
    clear hb4 B3 T3
    by_cases hz : (treeEr m).code = 0
    rotate_left
    · obtain ⟨t, y, rfl⟩ := IsErr.some_inv HI.out hz
      clear hz HI
      go_wp2_with fail
      go_ret
      exact ⟨rfl, B4.out⟩
    obtain rfl : ev = .nilIface := IsErr.nil_inv (a := (treeEr m).at?) (by have := HI.out; rw [show treeEr m = ⟨(treeEr m).code, (treeEr m).at?⟩ from rfl, hz] at this; exact this)
    have OKm := Lib.hid ((treeOk_iff m).1 hz)
    have C := Lib.hid (treeUnder_any _ l d w4 (HV.out.ext B4.out).1 (by omega) (fun f hf => (S1.out f hf).1) (by omega) (HE.out.ext B4.out))
    rw [underT_of OKl.out] at C
    clear hz HI
    go_wp2_with fail
    refine C.out.mono ?_
    clear C
    rintro e w5 ⟨⟨wv, ev, rfl, HI, HW⟩, hb5⟩
    obtain rfl := IsErr.nil_inv HI.out
    have B5 := Lib.hid (B4.out.trans (hb5.mono B4.out.size))
    have T5 := Lib.hid (T4.out.ext hb5)
    have HW : Hid (FOwn w5 w4.heap.size wv (underL l d)) := HW
    obtain ⟨wo, wcp, rfl⟩ := HW.out.shape
    have C := Lib.hid (treeGraft_any _ _ l m d w5 (HV.out.ext B5.out) (HU.out.ext B5.out).1 (by omega) (by omega) (fun f hf => (S1.out f hf).1) (fun f hf => (S2.out f hf).1) (fun f hf => (S2.out f hf).2) (by omega) (HE.out.ext B5.out))
    clear HI hb5 B4 T4
    go_wp2_with fail
    refine C.out.mono ?_
    clear C
    rintro e w6 ⟨⟨tv, ev, rfl, HI, HO⟩, hb6⟩
    have B6 := Lib.hid (B5.out.trans (hb6.mono B5.out.size))
    have T6 := Lib.hid (T5.out.ext hb6)
    clear hb6 B5 T5 HW
    go_upto_region 10 with fail
    go_cut [66] from 21 (fun s wx => s = .bool (decide ((graftT l d m).1.code = 0)) ∧ wx = w6)
    case first =>
      by_cases hc : (graftT l d m).1.code = 0
      · obtain ⟨hG, hr⟩ := graft_ok hc
        rw [hr] at HI
        obtain rfl := IsErr.nil_inv HI.out
        clear hG hr
        go_wp2_with fail
        go_meet
        case rel => exact ⟨by rw [decide_eq_true hc], rfl⟩
      · obtain ⟨t, y, rfl⟩ := IsErr.some_inv HI.out hc
        go_wp2_with fail
        go_meet
        case rel => exact ⟨by rw [decide_eq_false hc], rfl⟩
    case rest =>
    obtain ⟨rfl, rfl⟩ := hcut
    go_upto_if 66 with fail
    go_cut [10] from 21 (fun s10 wx => s10 = .slice wo (underL l d).length wcp ∧ Hid (Below wc.heap.size wc wx))
    case first => as_aux_lemma =>
      by_cases hc : (graftT l d m).1.code = 0
      rotate_left
      · rw [decide_eq_false hc]
        clear hc HI
        go_wp2_with fail
        go_meet
        case rel => exact ⟨rfl, Below.refl _ _⟩
      rw [decide_eq_true hc]
      obtain ⟨hG, hr⟩ := graft_ok hc
      obtain ⟨t, ht⟩ : ∃ t, (graftT l d m).2 = t := ⟨_, rfl⟩
      rw [ht] at HO hG
      have HG := Lib.hid hG
      have UL := Lib.hid hG.underLen
      have ht30 := hG.ok.few
      have hul := underL_len t d
      have hwl := underL_len l d
      have TS := Lib.hid (TreeOk.small hG.ok)
      clear hc hr ht hG HI
      obtain ⟨tto, ttc, rfl⟩ := HO.out.shape
      have C := Lib.hid (treeUnder_any _ t d wc HO.out.row (by omega) (fun f hf => (TS.out f hf).1) (by omega) (HE.out.ext B6.out))
      rw [underT_of HG.out.ok] at C
      go_wp2_with fail
      refine C.out.mono ?_
      clear C
      rintro e w7 ⟨⟨uv, ev, rfl, HI7, HU7⟩, hb7⟩
      obtain rfl := IsErr.nil_inv HI7.out
      have HU7 : Hid (FOwn w7 wc.heap.size uv (underL t d)) := HU7
      obtain ⟨uo7, uc7, rfl⟩ := HU7.out.shape
      have B7 := Lib.hid (B6.out.trans (hb7.mono B6.out.size))
      have b67 := Lib.hid hb7
      have HO7 := Lib.hid (HO.out.ext hb7)
      have C := Lib.hid (treeCheck_any _ t w7 HO7.out.row (by omega) (fun f hf => (TS.out f hf).1) (HE.out.ext B7.out))
      clear HI7 hb7 HO
      go_wp2_with fail
      refine C.out.mono ?_
      clear C
      rintro e w8 ⟨⟨ev, rfl, HI8⟩, hb8⟩
      obtain rfl : ev = .nilIface := IsErr.nil_inv (a := none) (by have := HI8.out; rw [HG.out.ok.er] at this; exact this)
      have B8 := Lib.hid (B7.out.trans (hb8.mono B7.out.size))
      have b68 := Lib.hid (b67.out.trans (hb8.mono b67.out.size))
      have HU8 := Lib.hid (HU7.out.ext hb8)
      have e1 : ((t.length : Int) != (l.length : Int) + (m.length : Int)) = false := by have := UL.out; rw [bne_eq_false_iff_eq]; omega
      have e2 : (((underL t d).length : Int) != ((underL l d).length : Int) + (m.length : Int)) = false := by have := UL.out; rw [bne_eq_false_iff_eq]; omega
      clear HI8 hb8 HU7 HO7
      by_cases h0 : (underL l d).length = 0
      · have HEQ := Lib.hid (HG.out.underEq h0)
        have C := Lib.hid (treeSame_any (l := underL t d) (m := m) HU8.out.row (HU.out.ext B8.out).1 (by omega))
        rw [decide_eq_true HEQ.out] at C
        have e3 : (((underL l d).length : Int) == 0) = true := by rw [h0]; rfl
        clear h0
        go_wp2_with fail
        refine C.out.mono ?_
        clear C
        rintro e w9 ⟨rfl, hb9⟩
        go_wp2_with fail
        go_meet
        case rel => exact ⟨rfl, b68.out.trans (hb9.mono b68.out.size)⟩
      · have e3 : (((underL l d).length : Int) == 0) = false := by rw [beq_eq_false_iff_ne]; omega
        clear h0
        go_wp2_with fail
        go_meet
        case rel => exact ⟨rfl, b68.out⟩
    case rest => as_aux_lemma =>
    obtain ⟨rfl, hcut⟩ := hcut
    have B7 := Lib.hid (B6.out.trans (hcut.out.mono B6.out.size))
    have T7 := Lib.hid (T6.out.ext hcut.out)
    clear hcut B6 T6 HO HI
    obtain ⟨c0, c1, c2⟩ := T7.out.cells
    have C := Lib.hid (treePut_any _ l x wc (HV.out.ext B7.out) (by omega) (fun f hf => (S1.out f hf).1) S3.out (HE.out.ext B7.out))
    go_wp2_with fail
    refine C.out.mono ?_
    clear C
    rintro e w8 ⟨⟨pv, ev, rfl, HI, HO⟩, hb8⟩
    have B8 := Lib.hid (B7.out.trans (hb8.mono B7.out.size))
    have T8 := Lib.hid (T7.out.ext hb8)
    clear hb8 B7 T7 c0 c1 c2
    by_cases hc : (putT l x).1.code = 0
    rotate_left
    · obtain ⟨t, y, rfl⟩ := IsErr.some_inv HI.out hc
      rw [putT_bad hc] at HO
      obtain ⟨po, pc, rfl⟩ := FOwn.len0 HO.out
      clear hc HI HO
      go_wp2_with fail
      go_ret
      exact ⟨rfl, B8.out⟩
    obtain ⟨_, hr, hok⟩ := putT_ok hc
    rw [hr] at HI HO
    obtain rfl := IsErr.nil_inv HI.out
    have OKp := Lib.hid hok
    obtain ⟨A, Cc, hPA⟩ := put_at (x := x) OKl.out
    have PA := Lib.hid hPA
    obtain ⟨p, hp⟩ : ∃ p, putL l x = p := ⟨_, rfl⟩
    have HO : Hid (FOwn w8 wc.heap.size pv (putL l x)) := HO
    rw [hp] at HO OKp PA
    clear hc hr hok HI hPA hp
    have hp30 := OKp.out.few
    have SP := Lib.hid (TreeOk.small OKp.out)
    obtain ⟨po, pc, rfl⟩ := HO.out.shape
    obtain ⟨n, hn⟩ : ∃ n, p.length = n := ⟨_, rfl⟩
    have HN := Lib.hid hn
    have HR := Lib.hid HO.out.row
    obtain ⟨po', pc', e', r1, r2, R3⟩ := HR.out
    injection e' with e1' e2' e3'
    subst e1' e3'
    have HM := Lib.hid R3
    have HOa := Lib.hid HO.out.arg
    clear e2' R3 HO HR
    rw [hn] at r1 hp30 ⊢
    clear hn
    go_wp2_with fail
    go_loopg [16, 17] n (fun g1 mv vi wr => ∃ k j : Nat, vi = .int .i64 k ∧ mv = .int .i64 j ∧ j ≤ k ∧ k ≤ n ∧ n - k ≤ g1 ∧ Hid (j = ((p.take k).filter fun y => decide (y.path = x.path)).length) ∧ Hid (Below w8.heap.size w8 wr))
    case atStart => exact ⟨0, 0, rfl, rfl, Nat.le_refl _, Nat.zero_le _, Nat.le_refl _, (by show _ = _; simp), Below.refl _ _⟩
    case round =>
      obtain ⟨k, j, rfl, rfl, hjk, hk, hg, HJ, HB⟩ := hrel
      have TW := Lib.hid (T8.out.ext HB.out)
      obtain ⟨c0, c1, c2⟩ := TW.out.cells
      by_cases hlt : k < n
      · have hkp : k < p.length := by rw [HN.out]; exact hlt
        obtain ⟨b, off, rfl, hbl, hcell⟩ := HM.out k hkp
        obtain ⟨q0, q1, q2⟩ := hcell k hkp
        rw [← HB.out.cell (p := ⟨b, off + k * 3, none⟩) hbl] at q0
        rw [← HB.out.cell (p := ⟨b, off + k * 3 + 1, none⟩) hbl] at q1
        rw [← HB.out.cell (p := ⟨b, off + k * 3 + 2, none⟩) hbl] at q2
        have HS2 : Hid ((p.take (k + 1)).filter (fun y => decide (y.path = x.path)) = (p.take k).filter (fun y => decide (y.path = x.path)) ++ (if p[k].path = x.path then [p[k]] else [])) := by
          show _ = _
          rw [List.take_succ_eq_append_getElem hkp, List.filter_append]
          by_cases h : p[k].path = x.path <;> simp [h]
        have HON := Lib.hid (PA.out.only p[k] (List.getElem_mem hkp))
        clear hcell
        by_cases hq : p[k].path = x.path
        · have HQ := Lib.hid hq
          have hx := HON.out hq
          have HJ2 : Hid (j + 1 = ((p.take (k + 1)).filter fun y => decide (y.path = x.path)).length) := by
            show _ = _
            rw [HS2.out, if_pos hq, List.length_append, ← HJ.out]; rfl
          rw [hx] at q0 q1 q2
          have e0 : (x.path.toList == x.path.toList) = true := beq_self_eq_true _
          have e1 : (x.run == x.run) = true := beq_self_eq_true _
          have e2 : (x.text.toList == x.text.toList) = true := beq_self_eq_true _
          clear hq hx HQ HON HS2 HJ
          go_wp2_with fail
          go_quiet (fail)
          go_wp2_with fail
          go_quiet (fail)
          go_wp2_with fail
          go_roundg (n - (k + 1))
          case measure => omega
          case rel => exact ⟨k + 1, j + 1, by go_num, by go_num, by omega, by omega, Nat.le_refl _, HJ2, HB.out.trans ((below_drewN _ wr _).mono HB.out.size)⟩
        · have e0 : (p[k].path.toList == x.path.toList) = false := by rw [str_eqb]; exact decide_eq_false hq
          have HJ2 : Hid (j = ((p.take (k + 1)).filter fun y => decide (y.path = x.path)).length) := by
            show _ = _
            rw [HS2.out, if_neg hq, List.append_nil]; exact HJ.out
          clear hq HON HS2 HJ
          generalize p[k] = f at q0 q1 q2 e0
          go_wp2_with fail
          go_quiet (fail)
          go_wp2_with fail
          go_roundg (n - (k + 1))
          case measure => omega
          case rel => exact ⟨k + 1, j, by go_num, rfl, by omega, by omega, Nat.le_refl _, HJ2, HB.out.trans ((below_drewN _ _ _).mono HB.out.size)⟩
      · obtain rfl : k = n := by omega
        have hj1 : j = 1 := by
          have := HJ.out
          rw [List.take_of_length_le (by rw [HN.out]; exact Nat.le_refl _), PA.out.once] at this
          exact this
        subst hj1
        obtain ⟨hd1, hd2⟩ := PA.out.dropped
        have hless := PA.out.less
        obtain ⟨q, hqq⟩ : ∃ q, A ++ Cc = q := ⟨_, rfl⟩
        rw [hqq] at hd1 hd2 hless
        have HD1 := Lib.hid hd1
        have HLS := Lib.hid hless
        have hqn : q.length + 1 = k := by rw [← HN.out]; exact hd2.symm
        have OKq : Hid (TreeOk q) := by show TreeOk q; rw [← hd1]; exact OKp.out.sub (dropL_sub _ _)
        have SQ := Lib.hid (TreeOk.small OKq.out)
        have B9 := Lib.hid (B8.out.trans (HB.out.mono B8.out.size))
        have HP9 := Lib.hid (HOa.out.ext HB.out)
        have DT : Hid (dropT p x.path = (⟨0, none⟩, q)) := by
          show _ = _
          rw [dropT_of OKp.out, hd1, if_neg (by omega)]
        have C := Lib.hid (treeDrop_any _ p x.path wr HP9.out (by omega) (fun f hf => (SP.out f hf).1) (HE.out.ext B9.out))
        rw [DT.out, HN.out] at C
        clear hd1 hd2 hless hqq HJ HM HOa DT
        go_wp2_with fail
        refine C.out.mono ?_
        clear C
        rintro e w10 ⟨⟨dv, ev, rfl, HI, HD⟩, hb10⟩
        obtain rfl := IsErr.nil_inv HI.out
        have HD : Hid (FOwn w10 wr.heap.size dv q) := HD
        obtain ⟨do_, dc, rfl⟩ := HD.out.shape
        have B10 := Lib.hid (B9.out.trans (hb10.mono B9.out.size))
        have T10 := Lib.hid (TW.out.ext hb10)
        have C := Lib.hid (treeCheck_any _ q w10 HD.out.row (by omega) (fun f hf => (SQ.out f hf).1) (HE.out.ext B10.out))
        have e1 : ((q.length : Int) != (k : Int) - 1) = false := by rw [bne_eq_false_iff_eq]; omega
        clear HI hb10 B9 TW c0 c1 c2 HP9
        go_wp2_with fail
        refine C.out.mono ?_
        clear C
        rintro e w11 ⟨⟨ev, rfl, HI⟩, hb11⟩
        obtain rfl : ev = .nilIface := IsErr.nil_inv (a := none) (by have := HI.out; rw [OKq.out.er] at this; exact this)
        have B11 := Lib.hid (B10.out.trans (hb11.mono B10.out.size))
        have T11 := Lib.hid (T10.out.ext hb11)
        have HD11 := Lib.hid (HD.out.ext hb11)
        obtain ⟨c0, c1, c2⟩ := T11.out.cells
        have DT : Hid (dropT q x.path = (⟨6, none⟩, [])) := by
          show _ = _
          rw [dropT_of OKq.out, show dropL q x.path = q by rw [← HD1.out]; exact dropL_again _ _, if_pos rfl]
        have C := Lib.hid (treeDrop_any _ q x.path w11 HD11.out.arg (by omega) (fun f hf => (SQ.out f hf).1) (HE.out.ext B11.out))
        rw [DT.out] at C
        clear HI hb11 B10 T10 HD e1 DT
        go_wp2_with fail
        refine C.out.mono ?_
        clear C
        rintro e w12 ⟨⟨av, ev, rfl, HI, HA⟩, hb12⟩
        obtain ⟨_, rfl⟩ := IsErr.base_inv (k := 5) HI.out
        obtain ⟨ao, ac, rfl⟩ := FOwn.len0 HA.out
        have B12 := Lib.hid (B11.out.trans (hb12.mono B11.out.size))
        have T12 := Lib.hid (T11.out.ext hb12)
        have HD12 := Lib.hid (HD11.out.ext hb12)
        clear HI hb12 B11 T11 HD11 HA c0 c1 c2
        obtain ⟨c0, c1, c2⟩ := T12.out.cells
        have C := Lib.hid (treeDrop_any _ l x.path w12 (HV.out.ext B12.out) (by omega) (fun f hf => (S1.out f hf).1) (HE.out.ext B12.out))
        have DT : Hid (dropT l x.path = if (dropL l x.path).length = l.length then (⟨6, none⟩, []) else (⟨0, none⟩, dropL l x.path)) := dropT_of OKl.out x.path
        go_wp2_with fail
        refine C.out.mono ?_
        clear C
        rintro e w13 ⟨⟨xv, ev, rfl, HI, HX⟩, hb13⟩
        rw [DT.out] at HI HX
        have B13 := Lib.hid (B12.out.trans (hb13.mono B12.out.size))
        have HD13 := Lib.hid (HD12.out.ext hb13)
        clear hb13 B12 T12 HD12 c0 c1 c2
        by_cases hs : (dropL l x.path).length = l.length
        · rw [if_pos hs] at HI HX
          obtain ⟨_, rfl⟩ := IsErr.base_inv (k := 5) HI.out
          have hql : q = l := by rw [← HLS.out]; exact dropL_same hs
          have C := Lib.hid (treeSame_any (l := q) (m := l) HD13.out.row (HV.out.ext B13.out).1 (by omega))
          rw [decide_eq_true hql] at C
          clear hs HI HX DT hql
          go_wp2_with fail
          refine C.out.mono ?_
          clear C
          rintro e w14 ⟨rfl, hb14⟩
          go_wp2_with fail
          go_ret
          exact ⟨rfl, B13.out.trans (hb14.mono B13.out.size)⟩
        · rw [if_neg hs] at HI HX
          obtain rfl := IsErr.nil_inv HI.out
          have HX : Hid (FOwn w13 w12.heap.size xv q) := by show FOwn _ _ _ _; rw [← HLS.out]; exact HX.out
          have C := Lib.hid (treeSame_any (l := q) (m := q) HD13.out.row HX.out.row (by omega))
          rw [decide_eq_true (show q = q from rfl)] at C
          clear hs HI DT
          go_wp2_with fail
          refine C.out.mono ?_
          clear C
          rintro e w14 ⟨rfl, hb14⟩
          go_wp2_with fail
          go_ret
          exact ⟨rfl, B13.out.trans (hb14.mono B13.out.size)⟩
end Go.Proofs.YtbaflplahaojbaaGreatDoor
