/- chandlerylaw1.TreeTells: the walk. -/
import Derived.Test.YtamimigpnhblmaaGreatDoorJTreeGraftsLaw
import Derived.Test.YtamimigpnhblmaaGreatDoorJRefTreeUp
import Derived.Test.YtamimigpnhblmaaGreatDoorJTold
namespace Go.Proofs.YtamimigpnhblmaaGreatDoor
open Go Go.RowKit

theorem faultB_eq (er : Er) : faultB er (er.code : Int) (er.at?.getD (-1)) = true := by unfold faultB; simp
theorem faulted_eq {E : Nat → Addr} {w : World} {v : Value} {er : Er} (hE : Env E w) (hv : IsErr E w v er) : Calls Tryz.prog 10 #[v, .agg #[.int .i64 er.code, .int .i64 (er.at?.getD (-1))]] w fun e w' =>
    e = .returned (.bool true) ∧ Below w.heap.size w w' := by
  have h := faulted1_any hE hv (er.code : Int) (er.at?.getD (-1))
  rw [faultB_eq] at h
  exact h
theorem sortT_len (l : List FileB) : (sortT l).2.length ≤ 1000 + l.length := by
  unfold sortT
  have := (isort_perm l).length_eq
  split
  · simp
  · split
    · simp
    · show (isort l).length ≤ _; omega
theorem putT_len (l : List FileB) (x : FileB) : (putT l x).2.length ≤ 1000 + l.length := by
  unfold putT
  have := putL_len l x
  split
  · simp
  · split
    · simp
    · show (putL l x).length ≤ _; omega
theorem dropT_len (l : List FileB) (p : ByteArray) : (dropT l p).2.length ≤ 1000 + l.length := by
  unfold dropT
  have := dropL_len l p
  split
  · simp
  · split
    · simp
    · show (dropL l p).length ≤ _; omega
theorem underT_len (l : List FileB) (d : ByteArray) : (underT l d).2.length ≤ 1000 + l.length := by
  unfold underT
  have := underL_len l d
  split
  · simp
  · show (underL l d).length ≤ _; omega
theorem graftT_len (l : List FileB) (d : ByteArray) (m : List FileB) : (graftT l d m).2.length ≤ 2000 + l.length + m.length := by
  unfold graftT
  have := sortT_len (l ++ m.map (joinF d))
  rw [List.length_append, List.length_map] at this
  split
  · simp
  · split
    · simp
    · split
      · simp
      · split
        · simp
        · show (sortT (l ++ m.map (joinF d))).2.length ≤ _; omega
theorem stripTr_len (l : List FileB) (n : Int) : (stripTr l n).2.length ≤ 1000 + l.length := by
  unfold stripTr
  have := sortT_len (l.map (stripF n))
  rw [List.length_map] at this
  split
  · simp
  · cases stripIx n l with
    | none => exact this
    | some i => simp
theorem underT_er (l : List FileB) (d : ByteArray) : (underT l d).1 = treeEr l := by
  unfold underT
  by_cases h : (treeEr l).code = 0
  · rw [if_neg (by rw [h]; decide)]
    exact (TreeOk.er ((treeOk_iff l).1 h)).symm
  · rw [if_pos h]

set_option maxHeartbeats 8000000 in
set_option maxRecDepth 100000 in
theorem treeTells_walk {E : Nat → Addr} {w : World} (hE : FEnv E w) (v u : Value) (l m : List FileB) (hv : FArg w v l) (hu : FArg w u m) (x : FileB) (p : ByteArray) (n : Int) (hn : (Lit.int .i64 n).wf = true) :
    Calls Tryz.prog 3 #[v, u, .agg (encFile x).toArray, .string p, .int .i64 n] w fun e w' => e = .returned (.bool true) ∧ Below w.heap.size w w' := by
  have HWF := Lib.hid hn
  have HE := Lib.hid hE
  have HV := Lib.hid hv
  have HU := Lib.hid hu
  obtain ⟨vo, vc, rfl⟩ := hv.1.len
  obtain ⟨uo, uc, rfl⟩ := hu.1.len
  have mixed : Tryz.prog.follows .mixedOrders = true := by kernel_rfl
  obtain ⟨tb, htb⟩ : ∃ tb, w.heap.size = tb := ⟨_, rfl⟩
  have hB : Below w.heap.size w (w.alloc (.cells (encFile x).toArray 24)) := (Below.refl _ w).alloc (Nat.le_refl _) _
  have hT : Boxes (w.alloc (.cells (encFile x).toArray 24)) tb x := by rw [← htb]; exact heap_alloc_new w _
  obtain ⟨w0, hw0⟩ : ∃ w0, w.alloc (.cells (encFile x).toArray 24) = w0 := ⟨_, rfl⟩
  rw [hw0] at hB hT
  have C := Lib.hid (rooted_any w0 (HE.out.ext hB))
  have HW0 := Lib.hid hw0
  have HTB := Lib.hid htb
  have HT := Lib.hid hT
  clear hn hE hv hu hw0 htb hT
  go_enter Tryz.func3, Tryz.ntmps3
  go_wp2_with fail
  rw [HW0.out, HTB.out]
  refine C.out.mono ?_
  clear C
  rintro e w1 ⟨rfl, hb1⟩
  have B1 := Lib.hid (hB.trans (hb1.mono hB.size))
  have T1 := Lib.hid (HT.out.ext hb1)
  clear HT hB hb1
  have V1 := Lib.hid (HV.out.ext B1.out)
  have U1 := Lib.hid (HU.out.ext B1.out)
  obtain ⟨c0, c1, c2⟩ := T1.out.cells
  obtain ⟨n1, hn1⟩ : ∃ n1, longN l = n1 := ⟨_, rfl⟩
  obtain ⟨n2, hn2⟩ : ∃ n2, longN m = n2 := ⟨_, rfl⟩
  obtain ⟨n3, hn3⟩ : ∃ n3, longN [x] = n3 := ⟨_, rfl⟩
  have hb1 : n1 ≤ 1 := by rw [← hn1]; exact longN_le l
  have hb2 : n2 ≤ 1 := by rw [← hn2]; exact longN_le m
  have hb3 : n3 ≤ 1 := by rw [← hn3]; exact longN_le [x]
  have N1 := Lib.hid hn1
  have N2 := Lib.hid hn2
  have N3 := Lib.hid hn3
  clear hn1 hn2 hn3
  go_upto_region 2 with fail
  go_cut [38] from 19 (fun s wx => ∃ bb : Bool, s = .bool bb ∧ Hid (bb = (decide (0 < n1 + n2 + n3) || decide (100 < p.size))) ∧ Hid (Below w1.heap.size w1 wx))
  case first => as_aux_lemma =>
    have L1 : Hid (∀ W, Below w1.heap.size w1 W → Calls Tryz.prog 7 #[.slice vo l.length vc] W fun e w' => e = .returned (.int .i64 n1) ∧ W = w') := fun W hW => by
      have := longFiles_exact _ l W (V1.out.ext hW).1
      rw [N1.out] at this; exact this
    have L2 : Hid (∀ W, Below w1.heap.size w1 W → Calls Tryz.prog 7 #[.slice uo m.length uc] W fun e w' => e = .returned (.int .i64 n2) ∧ W = w') := fun W hW => by
      have := longFiles_exact _ m W (U1.out.ext hW).1
      rw [N2.out] at this; exact this
    have L3 : Hid (∀ W h, W.heap[h]? = some (.cells (encFile x).toArray 24 (0, 0)) → Calls Tryz.prog 7 #[.slice (some ⟨h, 0, none⟩) 1 1] W fun e w' => e = .returned (.int .i64 n3) ∧ W = w') := fun W h hh => by
      have hr : FRow W (.slice (some ⟨h, 0, none⟩) 1 1) [x] := ⟨_, 1, rfl, Nat.le_refl _, by rw [maxLen_eq]; decide, fun i hi => ⟨h, 0, rfl, (Array.getElem?_eq_some_iff.1 hh).1, fun k hk => by
        obtain rfl : k = 0 := by simpa using hk
        exact ⟨by rw [Lib.cell_of_heap hh]; rfl, by rw [Lib.cell_of_heap hh]; rfl, by rw [Lib.cell_of_heap hh]; rfl⟩⟩⟩
      have := longFiles_exact _ [x] W hr
      rw [N3.out] at this; exact this
    have e12 : IntKind.i64.wrap ((n1 : Int) + (n2 : Int)) = (n1 : Int) + (n2 : Int) := by rw [IntKind.wrap_i64]; omega
    have e123 : IntKind.i64.wrap ((n1 : Int) + (n2 : Int) + (n3 : Int)) = (n1 : Int) + (n2 : Int) + (n3 : Int) := by rw [IntKind.wrap_i64]; omega
    by_cases hlong : 0 < n1 + n2 + n3
    · have d0 : decide ((0 : Int) < (n1 : Int) + (n2 : Int) + (n3 : Int)) = true := decide_eq_true (by omega)
      first
        | (go_region_with
        (first
          | (go_at_call_of 7 (Value.slice vo l.length vc); refine (L1.out _ (by first | exact (Below.refl _ _).drew | exact ((Below.refl _ _).drew).alloc (Nat.le_refl _) _ | exact ((Below.refl _ _).alloc (Nat.le_refl _) _).drew)).mono ?_; rintro e w' ⟨rfl, rfl⟩)
          | (go_at_call_of 7 (Value.slice uo m.length uc); refine (L2.out _ (by first | exact (Below.refl _ _).drew | exact ((Below.refl _ _).drew).alloc (Nat.le_refl _) _ | exact ((Below.refl _ _).alloc (Nat.le_refl _) _).drew)).mono ?_; rintro e w' ⟨rfl, rfl⟩)
          | (go_at_call 7; refine (L3.out _ _ (by first | exact heap_alloc_new _ _ | exact heap_alloc_new (World.drew _) _)).mono ?_; rintro e w' ⟨rfl, rfl⟩)))
        | fail
      all_goals
        go_wp2_with fail
        go_meet
        case rel =>
          refine ⟨_, rfl, ?_, ((Below.refl _ w1).alloc (Nat.le_refl _) _).drew⟩
          show _ = _
          rw [decide_eq_true hlong]; rfl
    · have d0 : decide ((0 : Int) < (n1 : Int) + (n2 : Int) + (n3 : Int)) = false := decide_eq_false (by omega)
      go_region_held3 (fun W : World => W.cell? ⟨tb, 0, none⟩ = some (.string x.path) ∧ W.cell? ⟨tb, 1, none⟩ = some (.bool x.run) ∧ W.cell? ⟨tb, 2, none⟩ = some (.string x.text)) (go_keep)
        (first
          | (go_at_call_of 7 (Value.slice vo l.length vc); refine (L1.out _ (by first | exact (Below.refl _ _).drew | exact ((Below.refl _ _).drew).alloc (Nat.le_refl _) _ | exact ((Below.refl _ _).alloc (Nat.le_refl _) _).drew)).mono ?_; rintro e w' ⟨rfl, rfl⟩)
          | (go_at_call_of 7 (Value.slice uo m.length uc); refine (L2.out _ (by first | exact (Below.refl _ _).drew | exact ((Below.refl _ _).drew).alloc (Nat.le_refl _) _ | exact ((Below.refl _ _).alloc (Nat.le_refl _) _).drew)).mono ?_; rintro e w' ⟨rfl, rfl⟩)
          | (go_at_call 7; refine (L3.out _ _ (by first | exact heap_alloc_new _ _ | exact heap_alloc_new (World.drew _) _)).mono ?_; rintro e w' ⟨rfl, rfl⟩))
      all_goals
        go_wp2_with fail
        go_meet
        case rel =>
          refine ⟨_, rfl, ?_, ((Below.refl _ w1).alloc (Nat.le_refl _) _).drew⟩
          show _ = _
          rw [decide_eq_false hlong, Bool.false_or]
          exact decide_eq_decide.2 (by omega)
  case rest => as_aux_lemma =>
    obtain ⟨bb, rfl, HQ, HB2⟩ := hcut
    have B2 := Lib.hid (B1.out.trans (HB2.out.mono B1.out.size))
    have T2 := Lib.hid (T1.out.ext HB2.out)
    clear B1 T1 V1 U1 HB2 c0 c1 c2
    cases bb with
    | true =>
      clear HQ
      go_wp2_with fail
      go_ret
      exact ⟨rfl, B2.out⟩
    | false =>
    have hq := HQ.out.symm
    rw [Bool.or_eq_false_iff] at hq
    have hn0 := of_decide_eq_false hq.1
    have hd0 := of_decide_eq_false hq.2
    have z1 := longN_zero (l := l) (by rw [N1.out]; omega)
    have z2 := longN_zero (l := m) (by rw [N2.out]; omega)
    have z3 := longN_zero (l := [x]) (by rw [N3.out]; omega)
    have S1 : Hid (∀ f ∈ l, SmallF f ∧ f.path.size ≤ 9000) := fun f hf => by have := z1.2 f hf; exact ⟨⟨by omega, by omega⟩, by omega⟩
    have S2 : Hid (∀ f ∈ m, SmallF f ∧ f.path.size ≤ 9000) := fun f hf => by have := z2.2 f hf; exact ⟨⟨by omega, by omega⟩, by omega⟩
    have S3 : Hid (SmallF x) := by have := z3.2 x (List.mem_singleton.2 rfl); exact ⟨by omega, by omega⟩
    have S1b : Hid (∀ f ∈ l, f.path.size ≤ 100) := fun f hf => (z1.2 f hf).1
    have S2b : Hid (∀ f ∈ m, f.path.size ≤ 100) := fun f hf => (z2.2 f hf).1
    have hl31 := z1.1
    have hm31 := z2.1
    clear z1 z2 z3 hq HQ N1 N2 N3
    rename World => wb
    have C := Lib.hid (ownFiles_any _ l wb (by omega) (HV.out.ext B2.out))
    go_wp2_with fail
    refine C.out.mono ?_
    clear C
    rintro e w3 ⟨⟨ov, rfl, HO⟩, hb3⟩
    obtain ⟨oo, ocp, rfl⟩ := HO.out.shape
    have K3 := Lib.hid hb3
    have C := Lib.hid (refTreeFault_any _ l w3 (HV.out.ext (B2.out.trans (K3.out.mono B2.out.size))).1 (by omega) (fun f hf => (S1.out f hf).1))
    clear hb3
    go_wp2_with fail
    refine C.out.mono ?_
    clear C
    rintro e w4 ⟨rfl, hb4⟩
    have K4 := Lib.hid (K3.out.trans (hb4.mono K3.out.size))
    have HO4 := Lib.hid (HO.out.ext hb4)
    obtain ⟨er0, her0⟩ : ∃ er0, treeEr l = er0 := ⟨_, rfl⟩
    have HER0 := Lib.hid her0
    rw [her0]
    clear her0 hb4 HO K3
    rw [show erA er0 = #[.int .i64 er0.code, .int .i64 (er0.at?.getD (-1))] from rfl]
    obtain ⟨pb, hpb⟩ : ∃ q, w4.heap.size = q := ⟨_, rfl⟩
    obtain ⟨w5, hw5⟩ : ∃ w5, w4.alloc (.cells #[.int .i64 er0.code, .int .i64 (er0.at?.getD (-1))] 29) = w5 := ⟨_, rfl⟩
    have hal : Below w4.heap.size w4 w5 := by rw [← hw5]; exact (Below.refl _ _).alloc (Nat.le_refl _) _
    have FP := Lib.hid (show FaultAt w5 pb er0.code (er0.at?.getD (-1)) by rw [← hw5, ← hpb]; exact FaultAt.new _ _ _)
    have K := Lib.hid (K4.out.trans (hal.mono K4.out.size))
    have OW := Lib.hid (HO4.out.ext hal)
    have hpw : wb.heap.size ≤ pb := by rw [← hpb]; exact K4.out.size
    have HW5 := Lib.hid hw5
    have HPB := Lib.hid hpb
    clear hal hw5 hpb K4 HO4
    go_upto_region 6 with fail
    rw [HW5.out, HPB.out]
    go_cut [48] from 19 (fun s wx => s = .bool false ∧ Hid (Below w5.heap.size w5 wx))
    case first => as_aux_lemma =>
      have L1 : Hid (∀ W, Below w5.heap.size w5 W → Calls Tryz.prog 11 #[.slice oo l.length ocp] W fun e w' => (∃ ev, e = .returned ev ∧ Hid (IsErr E w' ev er0)) ∧ Below w5.heap.size w5 w') := fun W hW => by
        have hKW := K.out.trans (hW.mono K.out.size)
        refine (treeCheck_any _ l W (OW.out.ext hW).row (by omega) (fun f hf => (S1.out f hf).1) (HE.out.ext (B2.out.trans (hKW.mono B2.out.size)))).mono ?_
        rintro e w' ⟨⟨ev, rfl, HI⟩, hb⟩
        rw [HER0.out] at HI
        exact ⟨⟨ev, rfl, HI⟩, hW.trans (hb.mono hW.size)⟩
      have L2 : Hid (∀ W W0 ev, IsErr E W0 ev er0 → Below W0.heap.size W0 W → Below w5.heap.size w5 W → Calls Tryz.prog 10 #[ev, .agg #[.int .i64 er0.code, .int .i64 (er0.at?.getD (-1))]] W fun e w' => e = .returned (.bool true) ∧ Below w5.heap.size w5 w') := fun W W0 ev hI h0 hW => by
        have hKW := K.out.trans (hW.mono K.out.size)
        refine (faulted_eq (HE.out.ext (B2.out.trans (hKW.mono B2.out.size))).1 (hI.ext h0)).mono ?_
        rintro e w' ⟨rfl, hb⟩
        exact ⟨rfl, hW.trans (hb.mono hW.size)⟩
      obtain ⟨c0, c1, _, _⟩ := FP.out.cells
      have KEEP : Hid (∀ W, Below w5.heap.size w5 W → W.cell? ⟨pb, 0, none⟩ = some (.int .i64 er0.code) ∧ W.cell? ⟨pb, 1, none⟩ = some (.int .i64 (er0.at?.getD (-1)))) := fun W hW => ⟨(FP.out.ext hW).cells.1, (FP.out.ext hW).cells.2.1⟩
      go_region_held3 (fun W : World => W.cell? ⟨pb, 0, none⟩ = some (.int .i64 er0.code) ∧ W.cell? ⟨pb, 1, none⟩ = some (.int .i64 (er0.at?.getD (-1)))) (first | go_keep | exact KEEP.out _ hby | exact KEEP.out _ hbz)
        (first
          | (go_at_call 11; refine (L1.out _ (by first | exact (Below.refl _ _).drew | exact Below.refl _ _)).mono ?_; rintro e wz ⟨⟨ev, rfl, HI⟩, hbz⟩)
          | (go_at_call 10; refine (L2.out _ _ _ HI.out (by first | exact Below.refl _ _ | exact (Below.refl _ _).drew) (by first | exact hbz | exact hbz.drew)).mono ?_; rintro e wy ⟨rfl, hby⟩))
      all_goals
        go_wp2_with fail
        go_meet
        case rel => exact ⟨rfl, by first | exact hby | exact hby.drew⟩
    case rest => as_aux_lemma =>
    obtain ⟨rfl, hcut⟩ := hcut
    have K := Lib.hid (K.out.trans (hcut.out.mono K.out.size))
    have OW := Lib.hid (OW.out.ext hcut.out)
    have FP := Lib.hid (FP.out.ext hcut.out)
    clear hcut
    rename World => wi
    have HVc := Lib.hid (HV.out.ext (B2.out.trans (K.out.mono B2.out.size)))
    have HEc := Lib.hid (HE.out.ext (B2.out.trans (K.out.mono B2.out.size)))
    have C := Lib.hid (treeSort_any _ l wi OW.out.row (by omega) (fun f hf => (S1.out f hf).1) HEc.out)
    go_wp2_with fail
    refine C.out.mono ?_
    clear C
    rintro e wx ⟨⟨tv, ev, rfl, HI, HT⟩, hbx⟩
    have K := Lib.hid (K.out.trans (hbx.mono K.out.size))
    have OW := Lib.hid (OW.out.ext hbx)
    have FP := Lib.hid (FP.out.ext hbx)
    have C := Lib.hid (refSort_any _ l wx (HV.out.ext (B2.out.trans (K.out.mono B2.out.size))).1 (by omega) (fun f hf => (S1.out f hf).1))
    obtain ⟨er, her⟩ : ∃ er, (sortT l).1 = er := ⟨_, rfl⟩
    obtain ⟨tr, htr⟩ : ∃ tr, (sortT l).2 = tr := ⟨_, rfl⟩
    have hlen : tr.length ≤ 1000000 := by rw [← htr]; have := sortT_len l; omega
    rw [her] at HI
    rw [htr] at HT
    have C2 : Hid (Calls Tryz.prog 13 #[.slice vo l.length vc] wx (RPost (er, tr) wx)) := by show Calls _ _ _ _ _; rw [← her, ← htr]; exact C.out
    clear her htr hbx C
    obtain ⟨tq, tc, rfl⟩ := HT.out.shape
    go_wp2_with fail
    refine C2.out.mono ?_
    clear C2
    rintro e wy ⟨⟨rv, rfl, HR⟩, hby⟩
    have K := Lib.hid (K.out.trans (hby.mono K.out.size))
    have OW := Lib.hid (OW.out.ext hby)
    have FP := Lib.hid (FP.out.ext hby)
    have HI := Lib.hid (HI.out.ext hby)
    have HT := Lib.hid (HT.out.ext hby)
    have HR : Hid (FOwn wy wx.heap.size rv tr) := HR
    obtain ⟨ro, rc, rfl⟩ := HR.out.shape
    clear hby
    rw [show erA (er, tr).1 = #[.int .i64 er.code, .int .i64 (er.at?.getD (-1))] from rfl]
    obtain ⟨q, hq⟩ : ∃ q, wy.heap.size = q := ⟨_, rfl⟩
    obtain ⟨wz, hwz⟩ : ∃ wz, wy.alloc (.cells #[.int .i64 er.code, .int .i64 (er.at?.getD (-1))] 29) = wz := ⟨_, rfl⟩
    have hal : Below wy.heap.size wy wz := by rw [← hwz]; exact (Below.refl _ _).alloc (Nat.le_refl _) _
    have FQ2 := Lib.hid (show FaultAt wz q er.code (er.at?.getD (-1)) by rw [← hwz, ← hq]; exact FaultAt.new _ _ _)
    have hqw : wb.heap.size ≤ q := by rw [← hq]; exact K.out.size
    have hpq : pb ≠ q := by have := FP.out.lt; omega
    have HOQ : Hid (∀ g, (Value.slice oo l.length ocp).ownBlock = some g → g ≠ q) := fun g hg e => by have := (World.ownsRow.lt OW.out g hg).2; omega
    have K2 := Lib.hid (K.out.trans (hal.mono K.out.size))
    have OW2 := Lib.hid (OW.out.ext hal)
    have FP2 := Lib.hid (FP.out.ext hal)
    have HI2 := Lib.hid (HI.out.ext hal)
    have HT2 := Lib.hid (HT.out.ext hal)
    have HR2 := Lib.hid (HR.out.ext hal)
    have HWZ := Lib.hid hwz
    have HQ := Lib.hid hq
    clear hal hwz hq FP K OW HI HT HR
    go_upto_region 10 with fail
    rw [HWZ.out, HQ.out]
    go_cut [68] from 19 (fun s wx => s = .bool false ∧ Hid (Below wz.heap.size wz wx))
    case first => as_aux_lemma =>
      have L1 : Hid (∀ W, Below wz.heap.size wz W → Calls Tryz.prog 10 #[ev, .agg #[.int .i64 er.code, .int .i64 (er.at?.getD (-1))]] W fun e w' => e = .returned (.bool true) ∧ Below wz.heap.size wz w') := fun W hW => by
        have hKW := K2.out.trans (hW.mono K2.out.size)
        refine (faulted_eq (HE.out.ext (B2.out.trans (hKW.mono B2.out.size))).1 (HI2.out.ext hW)).mono ?_
        rintro e w' ⟨rfl, hb⟩
        exact ⟨rfl, hW.trans (hb.mono hW.size)⟩
      have L2 : Hid (∀ W, Below wz.heap.size wz W → Calls Tryz.prog 14 #[.slice tq tr.length tc, .slice ro tr.length rc] W fun e w' => e = .returned (.bool true) ∧ Below wz.heap.size wz w') := fun W hW => by
        have h := sameTrees_any (l := tr) (m := tr) (HT2.out.ext hW).row (HR2.out.ext hW).row hlen
        rw [decide_eq_true rfl] at h
        refine h.mono ?_
        rintro e w' ⟨rfl, hb⟩
        exact ⟨rfl, hW.trans (hb.mono hW.size)⟩
      obtain ⟨c0, c1, _, _⟩ := FQ2.out.cells
      go_wp2_with fail
      refine (L1.out _ (Below.refl _ _)).mono ?_
      clear c0 c1
      rintro e wf ⟨rfl, hbf⟩
      go_wp2_with fail
      refine (L2.out _ hbf).mono ?_
      rintro e ws ⟨rfl, hbs⟩
      go_wp2_with fail
      go_meet
      case rel => exact ⟨rfl, hbs⟩
    case rest => as_aux_lemma =>
    obtain ⟨rfl, hcut⟩ := hcut
    have K := Lib.hid (K2.out.trans (hcut.out.mono K2.out.size))
    have OW := Lib.hid (OW2.out.ext hcut.out)
    have FP := Lib.hid (FP2.out.ext hcut.out)
    have FQ := Lib.hid (FQ2.out.ext hcut.out)
    have HVc := Lib.hid (HV.out.ext (B2.out.trans (K.out.mono B2.out.size)))
    have HEc := Lib.hid (HE.out.ext (B2.out.trans (K.out.mono B2.out.size)))
    clear hcut K2 OW2 FP2 FQ2 HI2 HT2 HR2 HWZ
    rename World => wi
    have hqi : q < wi.heap.size := FQ.out.lt
    have TB := Lib.hid (T2.out.ext K.out)
    obtain ⟨b0, b1, b2⟩ := TB.out.cells
    have C := Lib.hid (treePut_any _ l x wi OW.out.arg (by omega) (fun f hf => (S1.out f hf).1) S3.out HEc.out)
    go_wp2_with fail
    refine C.out.mono ?_
    clear C
    rintro e wx ⟨⟨tv, ev, rfl, HI, HT⟩, hbx⟩
    have HT : Hid (FOwn wx wi.heap.size tv (putT l x).2) := HT
    have K := Lib.hid (K.out.trans (hbx.mono K.out.size))
    have OW := Lib.hid (OW.out.ext hbx)
    have FP := Lib.hid (FP.out.ext hbx)
    have FQ := Lib.hid (FQ.out.ext hbx)
    have hqx : q < wx.heap.size := FQ.out.lt
    have C := Lib.hid (refPut_any _ l x wx (HV.out.ext (B2.out.trans (K.out.mono B2.out.size))) (by omega) (fun f hf => (S1.out f hf).1) S3.out)
    have TB := Lib.hid (T2.out.ext K.out)
    clear b0 b1 b2
    obtain ⟨b0, b1, b2⟩ := TB.out.cells
    obtain ⟨er, her⟩ : ∃ er, (putT l x).1 = er := ⟨_, rfl⟩
    obtain ⟨tr, htr⟩ : ∃ tr, (putT l x).2 = tr := ⟨_, rfl⟩
    have hlen : tr.length ≤ 1000000 := by rw [← htr]; have := putT_len l x; omega
    rw [her] at HI
    rw [htr] at HT
    have C2 : Hid (Calls Tryz.prog 16 #[.slice vo l.length vc, .agg #[.string x.path, .bool x.run, .string x.text]] wx (RPost (er, tr) wx)) := by show Calls _ _ _ _ _; rw [← her, ← htr]; exact C.out
    clear her htr hbx C
    obtain ⟨tq, tc, rfl⟩ := HT.out.shape
    go_wp2_with fail
    refine C2.out.mono ?_
    clear C2
    rintro e wy ⟨⟨rv, rfl, HR⟩, hby⟩
    have K := Lib.hid (K.out.trans (hby.mono K.out.size))
    have OW := Lib.hid (OW.out.ext hby)
    have FP := Lib.hid (FP.out.ext hby)
    have FQ := Lib.hid (FQ.out.ext hby)
    have HI := Lib.hid (HI.out.ext hby)
    have HT := Lib.hid (HT.out.ext hby)
    have HR : Hid (FOwn wy wx.heap.size rv tr) := HR
    obtain ⟨ro, rc, rfl⟩ := HR.out.shape
    clear hby
    rw [show erA (er, tr).1 = #[.int .i64 er.code, .int .i64 (er.at?.getD (-1))] from rfl]
    clear b0 b1 b2 TB
    obtain ⟨wz, hwz⟩ : ∃ wz, (wy.setCell ⟨q, 0, none⟩ (.int .i64 er.code)).setCell ⟨q, 1, none⟩ (.int .i64 (er.at?.getD (-1))) = wz := ⟨_, rfl⟩
    have HTQ : Hid (∀ g, (Value.slice tq tr.length tc).ownBlock = some g → g ≠ q) := fun g hg e => by have := (World.ownsRow.lt HT.out g hg).1; omega
    obtain ⟨x0, x1, x2, x3⟩ := FQ.out.cells
    have FQ2 : Hid (FaultAt wz q er.code (er.at?.getD (-1))) := by show FaultAt _ _ _ _; rw [← hwz]; exact FQ.out.store _ _
    have FP2 : Hid (FaultAt wz pb er0.code (er0.at?.getD (-1))) := by show FaultAt _ _ _ _; rw [← hwz]; exact FP.out.other hpq _ _
    have K2 : Hid (Below wb.heap.size wb wz) := by show Below _ _ _; rw [← hwz]; exact below_pair K.out hqw _ _
    have OW2 : Hid (FOwn wz wb.heap.size (.slice oo l.length ocp) l) := by show FOwn _ _ _ _; rw [← hwz]; exact (OW.out.store HOQ.out _).store HOQ.out _
    have HI2 : Hid (IsErr E wz ev er) := by show IsErr _ _ _ _; rw [← hwz]; exact HI.out.store FQ.out _ _
    have HT2 : Hid (FOwn wz wi.heap.size (.slice tq tr.length tc) tr) := by show FOwn _ _ _ _; rw [← hwz]; exact (HT.out.store HTQ.out _).store HTQ.out _
    have HR2 : Hid (FOwn wz wx.heap.size (.slice ro tr.length rc) tr) := by show FOwn _ _ _ _; rw [← hwz]; exact own_fault HR.out FQ.out hqx _ _
    have HWZ := Lib.hid hwz
    clear hwz FP K OW HI HT HR HTQ FQ
    go_upto_region 14 with fail
    rw [HWZ.out]
    clear x0 x1 x2 x3
    go_cut [90] from 19 (fun s wx => s = .bool false ∧ Hid (Below wz.heap.size wz wx))
    case first => as_aux_lemma =>
      have L1 : Hid (∀ W, Below wz.heap.size wz W → Calls Tryz.prog 10 #[ev, .agg #[.int .i64 er.code, .int .i64 (er.at?.getD (-1))]] W fun e w' => e = .returned (.bool true) ∧ Below wz.heap.size wz w') := fun W hW => by
        have hKW := K2.out.trans (hW.mono K2.out.size)
        refine (faulted_eq (HE.out.ext (B2.out.trans (hKW.mono B2.out.size))).1 (HI2.out.ext hW)).mono ?_
        rintro e w' ⟨rfl, hb⟩
        exact ⟨rfl, hW.trans (hb.mono hW.size)⟩
      have L2 : Hid (∀ W, Below wz.heap.size wz W → Calls Tryz.prog 14 #[.slice tq tr.length tc, .slice ro tr.length rc] W fun e w' => e = .returned (.bool true) ∧ Below wz.heap.size wz w') := fun W hW => by
        have h := sameTrees_any (l := tr) (m := tr) (HT2.out.ext hW).row (HR2.out.ext hW).row hlen
        rw [decide_eq_true rfl] at h
        refine h.mono ?_
        rintro e w' ⟨rfl, hb⟩
        exact ⟨rfl, hW.trans (hb.mono hW.size)⟩
      obtain ⟨c0, c1, _, _⟩ := FQ2.out.cells
      go_wp2_with fail
      refine (L1.out _ (Below.refl _ _)).mono ?_
      clear c0 c1
      rintro e wf ⟨rfl, hbf⟩
      go_wp2_with fail
      refine (L2.out _ hbf).mono ?_
      rintro e ws ⟨rfl, hbs⟩
      go_wp2_with fail
      go_meet
      case rel => exact ⟨rfl, hbs⟩
    case rest => as_aux_lemma =>
    obtain ⟨rfl, hcut⟩ := hcut
    have K := Lib.hid (K2.out.trans (hcut.out.mono K2.out.size))
    have OW := Lib.hid (OW2.out.ext hcut.out)
    have FP := Lib.hid (FP2.out.ext hcut.out)
    have FQ := Lib.hid (FQ2.out.ext hcut.out)
    have HVc := Lib.hid (HV.out.ext (B2.out.trans (K.out.mono B2.out.size)))
    have HEc := Lib.hid (HE.out.ext (B2.out.trans (K.out.mono B2.out.size)))
    clear hcut K2 OW2 FP2 FQ2 HI2 HT2 HR2 HWZ
    rename World => wi
    have hqi : q < wi.heap.size := FQ.out.lt
    have C := Lib.hid (treeDrop_any _ l p wi OW.out.arg (by omega) (fun f hf => (S1.out f hf).1) HEc.out)
    go_wp2_with fail
    refine C.out.mono ?_
    clear C
    rintro e wx ⟨⟨tv, ev, rfl, HI, HT⟩, hbx⟩
    have HT : Hid (FOwn wx wi.heap.size tv (dropT l p).2) := HT
    have K := Lib.hid (K.out.trans (hbx.mono K.out.size))
    have OW := Lib.hid (OW.out.ext hbx)
    have FP := Lib.hid (FP.out.ext hbx)
    have FQ := Lib.hid (FQ.out.ext hbx)
    have hqx : q < wx.heap.size := FQ.out.lt
    have C := Lib.hid (refDrop_any _ l p wx (HV.out.ext (B2.out.trans (K.out.mono B2.out.size))).1 (by omega) (fun f hf => (S1.out f hf).1))
    obtain ⟨er, her⟩ : ∃ er, (dropT l p).1 = er := ⟨_, rfl⟩
    obtain ⟨tr, htr⟩ : ∃ tr, (dropT l p).2 = tr := ⟨_, rfl⟩
    have hlen : tr.length ≤ 1000000 := by rw [← htr]; have := dropT_len l p; omega
    rw [her] at HI
    rw [htr] at HT
    have C2 : Hid (Calls Tryz.prog 18 #[.slice vo l.length vc, .string p] wx (RPost (er, tr) wx)) := by show Calls _ _ _ _ _; rw [← her, ← htr]; exact C.out
    clear her htr hbx C
    obtain ⟨tq, tc, rfl⟩ := HT.out.shape
    go_wp2_with fail
    refine C2.out.mono ?_
    clear C2
    rintro e wy ⟨⟨rv, rfl, HR⟩, hby⟩
    have K := Lib.hid (K.out.trans (hby.mono K.out.size))
    have OW := Lib.hid (OW.out.ext hby)
    have FP := Lib.hid (FP.out.ext hby)
    have FQ := Lib.hid (FQ.out.ext hby)
    have HI := Lib.hid (HI.out.ext hby)
    have HT := Lib.hid (HT.out.ext hby)
    have HR : Hid (FOwn wy wx.heap.size rv tr) := HR
    obtain ⟨ro, rc, rfl⟩ := HR.out.shape
    clear hby
    rw [show erA (er, tr).1 = #[.int .i64 er.code, .int .i64 (er.at?.getD (-1))] from rfl]
    obtain ⟨wz, hwz⟩ : ∃ wz, (wy.setCell ⟨q, 0, none⟩ (.int .i64 er.code)).setCell ⟨q, 1, none⟩ (.int .i64 (er.at?.getD (-1))) = wz := ⟨_, rfl⟩
    have HTQ : Hid (∀ g, (Value.slice tq tr.length tc).ownBlock = some g → g ≠ q) := fun g hg e => by have := (World.ownsRow.lt HT.out g hg).1; omega
    obtain ⟨x0, x1, x2, x3⟩ := FQ.out.cells
    have FQ2 : Hid (FaultAt wz q er.code (er.at?.getD (-1))) := by show FaultAt _ _ _ _; rw [← hwz]; exact FQ.out.store _ _
    have FP2 : Hid (FaultAt wz pb er0.code (er0.at?.getD (-1))) := by show FaultAt _ _ _ _; rw [← hwz]; exact FP.out.other hpq _ _
    have K2 : Hid (Below wb.heap.size wb wz) := by show Below _ _ _; rw [← hwz]; exact below_pair K.out hqw _ _
    have OW2 : Hid (FOwn wz wb.heap.size (.slice oo l.length ocp) l) := by show FOwn _ _ _ _; rw [← hwz]; exact (OW.out.store HOQ.out _).store HOQ.out _
    have HI2 : Hid (IsErr E wz ev er) := by show IsErr _ _ _ _; rw [← hwz]; exact HI.out.store FQ.out _ _
    have HT2 : Hid (FOwn wz wi.heap.size (.slice tq tr.length tc) tr) := by show FOwn _ _ _ _; rw [← hwz]; exact (HT.out.store HTQ.out _).store HTQ.out _
    have HR2 : Hid (FOwn wz wx.heap.size (.slice ro tr.length rc) tr) := by show FOwn _ _ _ _; rw [← hwz]; exact own_fault HR.out FQ.out hqx _ _
    have HWZ := Lib.hid hwz
    clear hwz FP K OW HI HT HR HTQ FQ
    go_upto_region 18 with fail
    rw [HWZ.out]
    clear x0 x1 x2 x3
    go_cut [112] from 19 (fun s wx => s = .bool false ∧ Hid (Below wz.heap.size wz wx))
    case first => as_aux_lemma =>
      have L1 : Hid (∀ W, Below wz.heap.size wz W → Calls Tryz.prog 10 #[ev, .agg #[.int .i64 er.code, .int .i64 (er.at?.getD (-1))]] W fun e w' => e = .returned (.bool true) ∧ Below wz.heap.size wz w') := fun W hW => by
        have hKW := K2.out.trans (hW.mono K2.out.size)
        refine (faulted_eq (HE.out.ext (B2.out.trans (hKW.mono B2.out.size))).1 (HI2.out.ext hW)).mono ?_
        rintro e w' ⟨rfl, hb⟩
        exact ⟨rfl, hW.trans (hb.mono hW.size)⟩
      have L2 : Hid (∀ W, Below wz.heap.size wz W → Calls Tryz.prog 14 #[.slice tq tr.length tc, .slice ro tr.length rc] W fun e w' => e = .returned (.bool true) ∧ Below wz.heap.size wz w') := fun W hW => by
        have h := sameTrees_any (l := tr) (m := tr) (HT2.out.ext hW).row (HR2.out.ext hW).row hlen
        rw [decide_eq_true rfl] at h
        refine h.mono ?_
        rintro e w' ⟨rfl, hb⟩
        exact ⟨rfl, hW.trans (hb.mono hW.size)⟩
      obtain ⟨c0, c1, _, _⟩ := FQ2.out.cells
      go_wp2_with fail
      refine (L1.out _ (Below.refl _ _)).mono ?_
      clear c0 c1
      rintro e wf ⟨rfl, hbf⟩
      go_wp2_with fail
      refine (L2.out _ hbf).mono ?_
      rintro e ws ⟨rfl, hbs⟩
      go_wp2_with fail
      go_meet
      case rel => exact ⟨rfl, hbs⟩
    case rest => as_aux_lemma =>
    obtain ⟨rfl, hcut⟩ := hcut
    have K := Lib.hid (K2.out.trans (hcut.out.mono K2.out.size))
    have OW := Lib.hid (OW2.out.ext hcut.out)
    have FP := Lib.hid (FP2.out.ext hcut.out)
    have FQ := Lib.hid (FQ2.out.ext hcut.out)
    have HVc := Lib.hid (HV.out.ext (B2.out.trans (K.out.mono B2.out.size)))
    have HEc := Lib.hid (HE.out.ext (B2.out.trans (K.out.mono B2.out.size)))
    clear hcut K2 OW2 FP2 FQ2 HI2 HT2 HR2 HWZ
    rename World => wi
    have hqi : q < wi.heap.size := FQ.out.lt
    have C := Lib.hid (treeUnder_any _ l p wi OW.out.row (by omega) (fun f hf => (S1.out f hf).1) (by omega) HEc.out)
    go_wp2_with fail
    refine C.out.mono ?_
    clear C
    rintro e wx ⟨⟨tv, ev, rfl, HI, HT⟩, hbx⟩
    have K := Lib.hid (K.out.trans (hbx.mono K.out.size))
    have OW := Lib.hid (OW.out.ext hbx)
    have FP := Lib.hid (FP.out.ext hbx)
    have FQ := Lib.hid (FQ.out.ext hbx)
    rw [underT_er, HER0.out] at HI
    obtain ⟨tr, htr⟩ : ∃ tr, (underT l p).2 = tr := ⟨_, rfl⟩
    have hlen : tr.length ≤ 1000000 := by rw [← htr]; have := underT_len l p; omega
    have HT : Hid (FOwn wx wi.heap.size tv tr) := by show FOwn _ _ _ _; rw [← htr]; exact HT.out
    have HTR := Lib.hid htr
    clear htr hbx
    obtain ⟨tq, tc, rfl⟩ := HT.out.shape
    obtain ⟨x0, x1, x2, x3⟩ := FP.out.cells
    go_upto_if 121 with fail
    go_cut [16] from 19 (fun s wq => ∃ ro rc, s = .slice ro tr.length rc ∧ Hid (FOwn wq wx.heap.size s tr) ∧ Hid (Below wx.heap.size wx wq))
    case first => as_aux_lemma =>
      have HVx := Lib.hid (HV.out.ext (B2.out.trans (K.out.mono B2.out.size)))
      by_cases hz : er0.code = 0
      · have HZ := Lib.hid hz
        have hu : tr = underL l p := by
          rw [← HTR.out, underT_of ((treeOk_iff l).1 (by rw [HER0.out]; exact hz))]
        have HU2 := Lib.hid hu
        have e0 : ((er0.code : Int) == 0) = true := by rw [hz]; rfl
        have C := Lib.hid (refUnder_any _ l p wx HVx.out.1 (by omega) (fun f hf => (S1.out f hf).1) (by omega))
        clear hz hu
        go_wp2_with fail
        refine C.out.mono ?_
        clear C
        rintro e wq ⟨⟨rv, rfl, HR⟩, hbq⟩
        rw [← HU2.out] at HR
        obtain ⟨ro, rc, rfl⟩ := HR.out.shape
        go_wp2_with fail
        go_meet
        case rel => exact ⟨_, _, rfl, HR, hbq⟩
      · have hu : tr = [] := by
          rw [← HTR.out]; unfold underT; rw [if_pos (by rw [HER0.out]; exact hz)]
        have e0 : ((er0.code : Int) == 0) = false := by rw [beq_eq_false_iff_ne]; omega
        have HN : Hid (FOwn wx wx.heap.size (.slice none 0 0) tr) := by rw [hu]; exact FOwn.nil _ _
        have HL : tr.length = 0 := by rw [hu]; rfl
        have HL2 := Lib.hid HL
        clear hz hu HL
        go_wp2_with fail
        go_meet
        case rel => exact ⟨none, 0, by rw [HL2.out], HN, Below.refl _ _⟩
    case rest => as_aux_lemma =>
    obtain ⟨ro, rc, rfl, HR2, hcut⟩ := hcut
    rename World => wz
    have HI2 := Lib.hid (HI.out.ext hcut.out)
    have HT2 := Lib.hid (HT.out.ext hcut.out)
    have K2 := Lib.hid (K.out.trans (hcut.out.mono K.out.size))
    have OW2 := Lib.hid (OW.out.ext hcut.out)
    have FP2 := Lib.hid (FP.out.ext hcut.out)
    have FQ2 := Lib.hid (FQ.out.ext hcut.out)
    have HWZ := Lib.hid (rfl : 0 = 0)
    clear x0 x1 x2 x3 K OW FP FQ HI HT hcut HVc HEc
    go_upto_region 24 with fail
    go_cut [134] from 19 (fun s wx => s = .bool false ∧ Hid (Below wz.heap.size wz wx))
    case first => as_aux_lemma =>
      have L1 : Hid (∀ W, Below wz.heap.size wz W → Calls Tryz.prog 10 #[ev, .agg #[.int .i64 er0.code, .int .i64 (er0.at?.getD (-1))]] W fun e w' => e = .returned (.bool true) ∧ Below wz.heap.size wz w') := fun W hW => by
        have hKW := K2.out.trans (hW.mono K2.out.size)
        refine (faulted_eq (HE.out.ext (B2.out.trans (hKW.mono B2.out.size))).1 (HI2.out.ext hW)).mono ?_
        rintro e w' ⟨rfl, hb⟩
        exact ⟨rfl, hW.trans (hb.mono hW.size)⟩
      have L2 : Hid (∀ W, Below wz.heap.size wz W → Calls Tryz.prog 14 #[.slice tq tr.length tc, .slice ro tr.length rc] W fun e w' => e = .returned (.bool true) ∧ Below wz.heap.size wz w') := fun W hW => by
        have h := sameTrees_any (l := tr) (m := tr) (HT2.out.ext hW).row (HR2.out.ext hW).row hlen
        rw [decide_eq_true rfl] at h
        refine h.mono ?_
        rintro e w' ⟨rfl, hb⟩
        exact ⟨rfl, hW.trans (hb.mono hW.size)⟩
      obtain ⟨c0, c1, _, _⟩ := FP2.out.cells
      go_wp2_with fail
      refine (L1.out _ (Below.refl _ _)).mono ?_
      clear c0 c1
      rintro e wf ⟨rfl, hbf⟩
      go_wp2_with fail
      refine (L2.out _ hbf).mono ?_
      rintro e ws ⟨rfl, hbs⟩
      go_wp2_with fail
      go_meet
      case rel => exact ⟨rfl, hbs⟩
    case rest => as_aux_lemma =>
    obtain ⟨rfl, hcut⟩ := hcut
    have K := Lib.hid (K2.out.trans (hcut.out.mono K2.out.size))
    have OW := Lib.hid (OW2.out.ext hcut.out)
    have FP := Lib.hid (FP2.out.ext hcut.out)
    have FQ := Lib.hid (FQ2.out.ext hcut.out)
    have HVc := Lib.hid (HV.out.ext (B2.out.trans (K.out.mono B2.out.size)))
    have HEc := Lib.hid (HE.out.ext (B2.out.trans (K.out.mono B2.out.size)))
    clear hcut K2 OW2 FP2 FQ2 HI2 HT2 HR2 HWZ
    rename World => wi
    have hqi : q < wi.heap.size := FQ.out.lt
    have C := Lib.hid (ownFiles_any _ m wi (by omega) (HU.out.ext (B2.out.trans (K.out.mono B2.out.size))))
    go_wp2_with fail
    refine C.out.mono ?_
    clear C
    rintro e wj ⟨⟨mv, rfl, HM⟩, hbj⟩
    have K := Lib.hid (K.out.trans (hbj.mono K.out.size))
    have OW := Lib.hid (OW.out.ext hbj)
    have FP := Lib.hid (FP.out.ext hbj)
    have FQ := Lib.hid (FQ.out.ext hbj)
    have HEj := Lib.hid (HE.out.ext (B2.out.trans (K.out.mono B2.out.size)))
    have hqi : q < wj.heap.size := FQ.out.lt
    clear hbj
    have C := Lib.hid (treeGraft_any _ _ l m p wj OW.out.arg HM.out.row (by omega) (by omega) (fun f hf => (S1.out f hf).1) (fun f hf => (S2.out f hf).1) (fun f hf => (S2.out f hf).2) (by omega) HEj.out)
    go_wp2_with fail
    refine C.out.mono ?_
    clear C
    rintro e wx ⟨⟨tv, ev, rfl, HI, HT⟩, hbx⟩
    have HT : Hid (FOwn wx wj.heap.size tv (graftT l p m).2) := HT
    have K := Lib.hid (K.out.trans (hbx.mono K.out.size))
    have OW := Lib.hid (OW.out.ext hbx)
    have FP := Lib.hid (FP.out.ext hbx)
    have FQ := Lib.hid (FQ.out.ext hbx)
    have hqx : q < wx.heap.size := FQ.out.lt
    have C := Lib.hid (refGraft_any _ _ l m p wx (HV.out.ext (B2.out.trans (K.out.mono B2.out.size))) (HU.out.ext (B2.out.trans (K.out.mono B2.out.size))).1 (by omega) (by omega) (fun f hf => (S1.out f hf).1) (fun f hf => (S2.out f hf).1) (fun f hf => by have := S2b.out f hf; omega) (by omega) refSort_any)
    obtain ⟨er, her⟩ : ∃ er, (graftT l p m).1 = er := ⟨_, rfl⟩
    obtain ⟨tr, htr⟩ : ∃ tr, (graftT l p m).2 = tr := ⟨_, rfl⟩
    have hlen : tr.length ≤ 1000000 := by rw [← htr]; have := graftT_len l p m; omega
    rw [her] at HI
    rw [htr] at HT
    have C2 : Hid (Calls Tryz.prog 22 #[.slice vo l.length vc, .string p, .slice uo m.length uc] wx (RPost (er, tr) wx)) := by show Calls _ _ _ _ _; rw [← her, ← htr]; exact C.out
    clear her htr hbx C
    obtain ⟨tq, tc, rfl⟩ := HT.out.shape
    go_wp2_with fail
    refine C2.out.mono ?_
    clear C2
    rintro e wy ⟨⟨rv, rfl, HR⟩, hby⟩
    have K := Lib.hid (K.out.trans (hby.mono K.out.size))
    have OW := Lib.hid (OW.out.ext hby)
    have FP := Lib.hid (FP.out.ext hby)
    have FQ := Lib.hid (FQ.out.ext hby)
    have HI := Lib.hid (HI.out.ext hby)
    have HT := Lib.hid (HT.out.ext hby)
    have HR : Hid (FOwn wy wx.heap.size rv tr) := HR
    obtain ⟨ro, rc, rfl⟩ := HR.out.shape
    clear hby
    rw [show erA (er, tr).1 = #[.int .i64 er.code, .int .i64 (er.at?.getD (-1))] from rfl]
    obtain ⟨wz, hwz⟩ : ∃ wz, (wy.setCell ⟨q, 0, none⟩ (.int .i64 er.code)).setCell ⟨q, 1, none⟩ (.int .i64 (er.at?.getD (-1))) = wz := ⟨_, rfl⟩
    have HTQ : Hid (∀ g, (Value.slice tq tr.length tc).ownBlock = some g → g ≠ q) := fun g hg e => by have := (World.ownsRow.lt HT.out g hg).1; omega
    obtain ⟨x0, x1, x2, x3⟩ := FQ.out.cells
    have FQ2 : Hid (FaultAt wz q er.code (er.at?.getD (-1))) := by show FaultAt _ _ _ _; rw [← hwz]; exact FQ.out.store _ _
    have FP2 : Hid (FaultAt wz pb er0.code (er0.at?.getD (-1))) := by show FaultAt _ _ _ _; rw [← hwz]; exact FP.out.other hpq _ _
    have K2 : Hid (Below wb.heap.size wb wz) := by show Below _ _ _; rw [← hwz]; exact below_pair K.out hqw _ _
    have OW2 : Hid (FOwn wz wb.heap.size (.slice oo l.length ocp) l) := by show FOwn _ _ _ _; rw [← hwz]; exact (OW.out.store HOQ.out _).store HOQ.out _
    have HI2 : Hid (IsErr E wz ev er) := by show IsErr _ _ _ _; rw [← hwz]; exact HI.out.store FQ.out _ _
    have HT2 : Hid (FOwn wz wj.heap.size (.slice tq tr.length tc) tr) := by show FOwn _ _ _ _; rw [← hwz]; exact (HT.out.store HTQ.out _).store HTQ.out _
    have HR2 : Hid (FOwn wz wx.heap.size (.slice ro tr.length rc) tr) := by show FOwn _ _ _ _; rw [← hwz]; exact own_fault HR.out FQ.out hqx _ _
    have HWZ := Lib.hid hwz
    clear hwz FP K OW HI HT HR HTQ FQ
    go_upto_region 28 with fail
    rw [HWZ.out]
    clear x0 x1 x2 x3
    go_cut [159] from 19 (fun s wx => s = .bool false ∧ Hid (Below wz.heap.size wz wx))
    case first => as_aux_lemma =>
      have L1 : Hid (∀ W, Below wz.heap.size wz W → Calls Tryz.prog 10 #[ev, .agg #[.int .i64 er.code, .int .i64 (er.at?.getD (-1))]] W fun e w' => e = .returned (.bool true) ∧ Below wz.heap.size wz w') := fun W hW => by
        have hKW := K2.out.trans (hW.mono K2.out.size)
        refine (faulted_eq (HE.out.ext (B2.out.trans (hKW.mono B2.out.size))).1 (HI2.out.ext hW)).mono ?_
        rintro e w' ⟨rfl, hb⟩
        exact ⟨rfl, hW.trans (hb.mono hW.size)⟩
      have L2 : Hid (∀ W, Below wz.heap.size wz W → Calls Tryz.prog 14 #[.slice tq tr.length tc, .slice ro tr.length rc] W fun e w' => e = .returned (.bool true) ∧ Below wz.heap.size wz w') := fun W hW => by
        have h := sameTrees_any (l := tr) (m := tr) (HT2.out.ext hW).row (HR2.out.ext hW).row hlen
        rw [decide_eq_true rfl] at h
        refine h.mono ?_
        rintro e w' ⟨rfl, hb⟩
        exact ⟨rfl, hW.trans (hb.mono hW.size)⟩
      obtain ⟨c0, c1, _, _⟩ := FQ2.out.cells
      go_wp2_with fail
      refine (L1.out _ (Below.refl _ _)).mono ?_
      clear c0 c1
      rintro e wf ⟨rfl, hbf⟩
      go_wp2_with fail
      refine (L2.out _ hbf).mono ?_
      rintro e ws ⟨rfl, hbs⟩
      go_wp2_with fail
      go_meet
      case rel => exact ⟨rfl, hbs⟩
    case rest => as_aux_lemma =>
    obtain ⟨rfl, hcut⟩ := hcut
    have K := Lib.hid (K2.out.trans (hcut.out.mono K2.out.size))
    have OW := Lib.hid (OW2.out.ext hcut.out)
    have FP := Lib.hid (FP2.out.ext hcut.out)
    have FQ := Lib.hid (FQ2.out.ext hcut.out)
    have HVc := Lib.hid (HV.out.ext (B2.out.trans (K.out.mono B2.out.size)))
    have HEc := Lib.hid (HE.out.ext (B2.out.trans (K.out.mono B2.out.size)))
    clear hcut K2 OW2 FP2 FQ2 HI2 HT2 HR2 HWZ
    rename World => wi
    have hqi : q < wi.heap.size := FQ.out.lt
    have C := Lib.hid (treeStrip_any _ l n wi OW.out.row (by omega) (fun f hf => (S1.out f hf).1) HWF.out HEc.out)
    go_wp2_with fail
    refine C.out.mono ?_
    clear C
    rintro e wx ⟨⟨tv, ev, rfl, HI, HT⟩, hbx⟩
    have HT : Hid (FOwn wx wi.heap.size tv (stripTr l n).2) := HT
    have K := Lib.hid (K.out.trans (hbx.mono K.out.size))
    have OW := Lib.hid (OW.out.ext hbx)
    have FP := Lib.hid (FP.out.ext hbx)
    have FQ := Lib.hid (FQ.out.ext hbx)
    have hqx : q < wx.heap.size := FQ.out.lt
    have C := Lib.hid (refStrip_any _ l n wx (HV.out.ext (B2.out.trans (K.out.mono B2.out.size))).1 (by omega) (fun f hf => (S1.out f hf).1) (fun f hf => by have := S1b.out f hf; omega) HWF.out refSort_any)
    obtain ⟨er, her⟩ : ∃ er, (stripTr l n).1 = er := ⟨_, rfl⟩
    obtain ⟨tr, htr⟩ : ∃ tr, (stripTr l n).2 = tr := ⟨_, rfl⟩
    have hlen : tr.length ≤ 1000000 := by rw [← htr]; have := stripTr_len l n; omega
    rw [her] at HI
    rw [htr] at HT
    have C2 : Hid (Calls Tryz.prog 24 #[.slice vo l.length vc, .int .i64 n] wx (RPost (er, tr) wx)) := by show Calls _ _ _ _ _; rw [← her, ← htr]; exact C.out
    clear her htr hbx C
    obtain ⟨tq, tc, rfl⟩ := HT.out.shape
    go_wp2_with fail
    refine C2.out.mono ?_
    clear C2
    rintro e wy ⟨⟨rv, rfl, HR⟩, hby⟩
    have K := Lib.hid (K.out.trans (hby.mono K.out.size))
    have OW := Lib.hid (OW.out.ext hby)
    have FP := Lib.hid (FP.out.ext hby)
    have FQ := Lib.hid (FQ.out.ext hby)
    have HI := Lib.hid (HI.out.ext hby)
    have HT := Lib.hid (HT.out.ext hby)
    have HR : Hid (FOwn wy wx.heap.size rv tr) := HR
    obtain ⟨ro, rc, rfl⟩ := HR.out.shape
    clear hby
    rw [show erA (er, tr).1 = #[.int .i64 er.code, .int .i64 (er.at?.getD (-1))] from rfl]
    obtain ⟨wz, hwz⟩ : ∃ wz, (wy.setCell ⟨q, 0, none⟩ (.int .i64 er.code)).setCell ⟨q, 1, none⟩ (.int .i64 (er.at?.getD (-1))) = wz := ⟨_, rfl⟩
    have HTQ : Hid (∀ g, (Value.slice tq tr.length tc).ownBlock = some g → g ≠ q) := fun g hg e => by have := (World.ownsRow.lt HT.out g hg).1; omega
    obtain ⟨x0, x1, x2, x3⟩ := FQ.out.cells
    have FQ2 : Hid (FaultAt wz q er.code (er.at?.getD (-1))) := by show FaultAt _ _ _ _; rw [← hwz]; exact FQ.out.store _ _
    have FP2 : Hid (FaultAt wz pb er0.code (er0.at?.getD (-1))) := by show FaultAt _ _ _ _; rw [← hwz]; exact FP.out.other hpq _ _
    have K2 : Hid (Below wb.heap.size wb wz) := by show Below _ _ _; rw [← hwz]; exact below_pair K.out hqw _ _
    have OW2 : Hid (FOwn wz wb.heap.size (.slice oo l.length ocp) l) := by show FOwn _ _ _ _; rw [← hwz]; exact (OW.out.store HOQ.out _).store HOQ.out _
    have HI2 : Hid (IsErr E wz ev er) := by show IsErr _ _ _ _; rw [← hwz]; exact HI.out.store FQ.out _ _
    have HT2 : Hid (FOwn wz wi.heap.size (.slice tq tr.length tc) tr) := by show FOwn _ _ _ _; rw [← hwz]; exact (HT.out.store HTQ.out _).store HTQ.out _
    have HR2 : Hid (FOwn wz wx.heap.size (.slice ro tr.length rc) tr) := by show FOwn _ _ _ _; rw [← hwz]; exact own_fault HR.out FQ.out hqx _ _
    have HWZ := Lib.hid hwz
    clear hwz FP K OW HI HT HR HTQ FQ
    go_upto_region 32 with fail
    rw [HWZ.out]
    clear x0 x1 x2 x3
    have C := Lib.hid (sameTrees_any (l := l) (m := m) (HV.out.ext (B2.out.trans (K2.out.mono B2.out.size))).1 (HU.out.ext (B2.out.trans (K2.out.mono B2.out.size))).1 (by omega))
    obtain ⟨bs, hbs⟩ : ∃ bs, decide (l = m) = bs := ⟨_, rfl⟩
    rw [hbs] at C
    have HBS := Lib.hid hbs
    clear hbs
    go_wp2_with fail
    refine C.out.mono ?_
    clear C
    rintro e wt ⟨rfl, hbt⟩
    have K3 := Lib.hid (K2.out.trans (hbt.mono K2.out.size))
    have OW3 := Lib.hid (OW2.out.ext hbt)
    have FQ3 := Lib.hid (FQ2.out.ext hbt)
    have HI3 := Lib.hid (HI2.out.ext hbt)
    have HT3 := Lib.hid (HT2.out.ext hbt)
    have HR3 := Lib.hid (HR2.out.ext hbt)
    clear hbt K2 OW2 FQ2 FP2 HI2 HT2 HR2 HWZ HVc HEc
    go_upto_region 33 with fail
    have L1 : Hid (∀ W, Below wt.heap.size wt W → Calls Tryz.prog 10 #[ev, .agg #[.int .i64 er.code, .int .i64 (er.at?.getD (-1))]] W fun e w' => e = .returned (.bool true) ∧ Below wt.heap.size wt w') := fun W hW => by
      have hKW := K3.out.trans (hW.mono K3.out.size)
      refine (faulted_eq (HE.out.ext (B2.out.trans (hKW.mono B2.out.size))).1 (HI3.out.ext hW)).mono ?_
      rintro e w' ⟨rfl, hb⟩
      exact ⟨rfl, hW.trans (hb.mono hW.size)⟩
    have L2 : Hid (∀ W, Below wt.heap.size wt W → Calls Tryz.prog 14 #[.slice tq tr.length tc, .slice ro tr.length rc] W fun e w' => e = .returned (.bool true) ∧ Below wt.heap.size wt w') := fun W hW => by
      have h := sameTrees_any (l := tr) (m := tr) (HT3.out.ext hW).row (HR3.out.ext hW).row hlen
      rw [decide_eq_true rfl] at h
      refine h.mono ?_
      rintro e w' ⟨rfl, hb⟩
      exact ⟨rfl, hW.trans (hb.mono hW.size)⟩
    have L3 : Hid (∀ W, Below wt.heap.size wt W → Calls Tryz.prog 8 #[.slice uo m.length uc] W fun e w' => (∃ mv, e = .returned mv ∧ Hid (FOwn w' wt.heap.size mv m)) ∧ Below wt.heap.size wt w') := fun W hW => by
      have hKW := K3.out.trans (hW.mono K3.out.size)
      refine (ownFiles_any _ m W (by omega) (HU.out.ext (B2.out.trans (hKW.mono B2.out.size)))).mono ?_
      rintro e w' ⟨⟨mv, rfl, HM⟩, hb⟩
      exact ⟨⟨mv, rfl, FOwn.low HM.out hW.size⟩, hW.trans (hb.mono hW.size)⟩
    have L4 : Hid (∀ W W0 mv, FOwn W0 wt.heap.size mv m → Below W0.heap.size W0 W → Below wt.heap.size wt W → Calls Tryz.prog 25 #[.slice oo l.length ocp, mv] W fun e w' => e = .returned (.bool bs) ∧ Below wt.heap.size wt w') := fun W W0 mv hM h0 hW => by
      have h := treeSame_any (l := l) (m := m) (OW3.out.ext hW).row (hM.ext h0).row (by omega)
      rw [HBS.out] at h
      refine h.mono ?_
      rintro e w' ⟨rfl, hb⟩
      exact ⟨rfl, hW.trans (hb.mono hW.size)⟩
    have L5 : Hid (∀ W, Below wt.heap.size wt W → Calls Tryz.prog 14 #[.slice oo l.length ocp, .slice vo l.length vc] W fun e w' => e = .returned (.bool true) ∧ Below wt.heap.size wt w') := fun W hW => by
      have hKW := K3.out.trans (hW.mono K3.out.size)
      have h := sameTrees_any (l := l) (m := l) (OW3.out.ext hW).row (HV.out.ext (B2.out.trans (hKW.mono B2.out.size))).1 (by omega)
      rw [decide_eq_true rfl] at h
      refine h.mono ?_
      rintro e w' ⟨rfl, hb⟩
      exact ⟨rfl, hW.trans (hb.mono hW.size)⟩
    have ebs : (bs == bs) = true := beq_self_eq_true _
    go_cut [10] from 19 (fun s wx => s = .bool true ∧ Hid (Below wt.heap.size wt wx))
    case first => as_aux_lemma =>
      obtain ⟨c0, c1, _, _⟩ := FQ3.out.cells
      go_wp2_with fail
      refine (L1.out _ (Below.refl _ _)).mono ?_
      clear c0 c1
      rintro e wf ⟨rfl, hbf⟩
      go_wp2_with fail
      refine (L2.out _ hbf).mono ?_
      rintro e ws ⟨rfl, hbs⟩
      go_wp2_with fail
      refine (L3.out _ hbs).mono ?_
      rintro e wo ⟨⟨mv, rfl, HM⟩, hbo⟩
      go_wp2_with fail
      refine (L4.out _ _ _ HM.out (Below.refl _ _) hbo).mono ?_
      rintro e wu ⟨rfl, hbu⟩
      go_wp2_with fail
      refine (L5.out _ hbu).mono ?_
      rintro e wv ⟨rfl, hbv⟩
      go_wp2_with fail
      go_meet
      case rel => exact ⟨rfl, hbv⟩
    case rest => as_aux_lemma =>
    obtain ⟨rfl, hcut⟩ := hcut
    have hbb := B2.out.trans ((K3.out.trans (hcut.out.mono K3.out.size)).mono B2.out.size)
    go_wp2_with fail
    go_ret
    exact ⟨rfl, hbb⟩
end Go.Proofs.YtamimigpnhblmaaGreatDoor
