/- chandlerylaw2.HeldActs: the walk. -/
import Derived.Test.YtjebljhhbnfpfaaGreatDoorJHeldFacts
import Derived.Test.YtjebljhhbnfpfaaGreatDoorJHeldMore
import Derived.Test.YtjebljhhbnfpfaaGreatDoorJRefHeldUp
import Derived.Test.YtjebljhhbnfpfaaGreatDoorJFiles
import Derived.Test.YtjebljhhbnfpfaaGreatDoorJTold
namespace Go.Proofs.YtjebljhhbnfpfaaGreatDoor
open Go Go.RowKit Go.Maps

theorem hr_held (cs : Array Value) (fz : Nat × Nat) : ¬ HeldRow (.cells cs 55 fz) := by
  rintro (⟨_, _, h⟩ | ⟨_, _, h⟩)
  · cases h
  · injection h with _ h _; exact absurd h (by decide)
theorem hr_tree (cs : Array Value) : ¬ HeldRow (.cells cs 57 (0, 0)) := by
  rintro (⟨_, _, h⟩ | ⟨_, _, h⟩)
  · cases h
  · injection h with _ h _; exact absurd h (by decide)
theorem rh_map (es : Array MapEntry) (c : Nat) : ¬ RHeldRow (.map es c) := fun ⟨_, _, h⟩ => by cases h
theorem rh_held (cs : Array Value) (fz : Nat × Nat) : ¬ RHeldRow (.cells cs 75 fz) := fun ⟨_, _, h⟩ => by injection h with _ h _; exact absurd h (by decide)
theorem rh_int (cs : Array Value) : ¬ RHeldRow (.cells cs 3 (0, 0)) := fun ⟨_, _, h⟩ => by injection h with _ h _; exact absurd h (by decide)
theorem rh_file (cs : Array Value) : ¬ RHeldRow (.cells cs 72 (0, 0)) := fun ⟨_, _, h⟩ => by injection h with _ h _; exact absurd h (by decide)
theorem IsErr.fine {E : Nat → Addr} {w : World} {v : Value} {er : Er} (h : IsErr E w v er) (h0 : er.code = 0) (w' : World) : IsErr E w' v er := by
  rcases h with h | ⟨k, _, e, _⟩ | ⟨k, a, b, _, e, _⟩
  · exact .inl h
  · rw [e] at h0; cases h0
  · rw [e] at h0; cases h0
theorem dropH_le (h : HeldB) (n : Int) : (dropH h n).1 ≤ 13 := by unfold dropH; split <;> exact Nat.le_of_ble_eq_true rfl
theorem dropH_len (h : HeldB) (n : Int) : (dropH h n).2.trees.length ≤ h.trees.length := by
  unfold dropH
  split
  · exact Nat.le_refl _
  · exact List.length_eraseIdx_le _ _
/-- Which number a drop means. -/
def dropK (hd : HeldB) (n : Int) : Int := if h : 0 ≤ n ∧ n < hd.trees.length then (hd.trees[n.toNat]'(by omega)).1 else n

set_option maxHeartbeats 4000000 in
set_option maxRecDepth 100000 in
theorem heldActs_walk {E : Nat → Addr} {w : World} (hE : KEnv E w) (most : Int) (v : Value) (L : List HoldB) (hv : HRow w v L) (n0 : Int) (hn0 : I64 n0) :
    Calls Tryz.prog 5 #[.int .i64 most, v, .int .i64 n0] w fun e w' => e = .returned (.bool true) ∧ Below w.heap.size w w' := by
  have HE := Lib.hid hE
  have HV := Lib.hid hv
  have C := Lib.hid (holds_any w hE)
  clear hE
  obtain ⟨⟨ao, cap, rfl, h1, h2, H3⟩, H5⟩ := hv
  have HM := Lib.hid H3
  have HX := Lib.hid H5
  clear H3 H5
  go_enter Tryz.func5, Tryz.ntmps5
  go_wp2_with fail
  refine C.out.mono ?_
  clear C
  rintro e w1 ⟨rfl, b1⟩
  have C := Lib.hid (longHoldings_any _ L w1 (HV.out.ext b1))
  go_wp2_with fail
  refine C.out.mono ?_
  clear C
  rintro e w2 ⟨⟨r, rfl, HN⟩, rfl⟩
  cases r with
  | true =>
    go_wp2_with fail
    go_ret
    exact ⟨rfl, b1⟩
  | false =>
    obtain ⟨h60, hsh⟩ := HN.out rfl
    have HSH := Lib.hid hsh
    have C := Lib.hid (heldNew_any most w1)
    clear HN hsh
    go_wp2_with fail
    refine C.out.mono ?_
    clear C
    rintro e w3 ⟨b, rfl, HI3, b3⟩
    have HI3 := Lib.hid HI3
    have C := Lib.hid (refNewHeld_any w most w3)
    go_wp2_with fail
    refine C.out.mono ?_
    clear C
    rintro e w4 ⟨m, rfl, HR4, b4⟩
    have HI4 := Lib.hid (HI3.out.below b4)
    have HR4 := Lib.hid HR4
    have b34 : Below w1.heap.size w1 w4 := b3.trans (b4.mono b3.size)
    obtain ⟨B, hB⟩ : ∃ B, w1.heap.size = B := ⟨_, rfl⟩
    obtain ⟨D, hD⟩ : ∃ D, w3.heap.size = D := ⟨_, rfl⟩
    have hBD : B ≤ D := by rw [← hB, ← hD]; exact b3.size
    have hDw : D ≤ w4.heap.size := by rw [← hD]; exact b4.size
    rw [hD] at HR4
    rw [hB] at HI4 b34
    have hBw : B ≤ w1.heap.size := Nat.le_of_eq hB.symm
    have hwB : w.heap.size ≤ B := by rw [← hB]; exact b1.size
    clear hB hD HI3 b3 b4
    go_wp2_with fail
    go_loopw [10] (fun i wr => ∃ (k : Nat) (hd : HeldB), k ≤ L.length ∧ i = .int .i64 k ∧ hd.trees.length ≤ 40 ∧ Hid (HeldIs wr B b hd) ∧ Hid (RHeldIs w wr D m hd) ∧ D ≤ wr.heap.size ∧ Below B w1 wr) (fun i _ => L.length - (intOf i).toNat)
    case atStart => exact ⟨0, newH most, Nat.zero_le _, rfl, Nat.zero_le _, HI4, HR4, hDw, b34⟩
    case round =>
      obtain ⟨k, hd, hk, rfl, hlen, HI, HR, hDr, hb⟩ := hrel
      have hbw : Below w.heap.size w wr := b1.trans (hb.mono hwB)
      have hBr : B ≤ wr.heap.size := Nat.le_trans hBw hb.size
      by_cases hlt : k < L.length
      · obtain ⟨b', off, rfl, hbl, hcell⟩ := HM.out k hlt
        obtain ⟨d0, d1, d2⟩ := hcell k hlt
        rw [← hbw.cell (p := ⟨b', off + k * 3, none⟩) hbl] at d0
        rw [← hbw.cell (p := ⟨b', off + k * 3 + 1, none⟩) hbl] at d1
        rw [← hbw.cell (p := ⟨b', off + k * 3 + 2, none⟩) hbl] at d2
        obtain ⟨hfa, hxn⟩ := HX.out L[k] (List.getElem_mem hlt)
        have hss := HSH.out L[k] (List.getElem_mem hlt)
        clear hcell
        obtain ⟨x, hx⟩ : ∃ x, L[k] = x := ⟨_, rfl⟩
        rw [hx] at d0 d1 d2 hfa hss hxn
        clear hx
        have HS : Hid (∀ f ∈ x.l, SmallF f) := fun f hf => by have := hss.2 f hf; exact ⟨by omega, by omega⟩
        have hln := hss.1
        clear hss
        cases hp : x.put with
        | false =>
          rw [hp] at d0
          clear d1 HS hp hfa
          obtain ⟨lv, vs, hA, hV⟩ := HR.out
          obtain ⟨_, r1, _⟩ := rheld_ready hA.blk
          have hvl := hV.len
          have hsum := hV.sums
          obtain ⟨ro, rc, rfl, hrc, hrm, _, H3⟩ := trees_parts hA.row
          rw [hvl] at hrc
          have hbm : m < wr.heap.size := (Array.getElem?_eq_some_iff.1 hA.blk).1
          have HIK : I64 (dropK hd x.n) := by
            unfold dropK
            split
            · exact mem_i64 HI.out.1 (List.mem_map.2 ⟨_, List.getElem_mem _, rfl⟩)
            · exact hxn
          have HIK := Lib.hid HIK
          have CR := Lib.hid (heldDrop_any (E := E) B b hd (dropK hd x.n) HIK.out wr HI.out hBr (HE.out.ext hbw).1.1)
          obtain ⟨z, hz⟩ : ∃ z, dropK hd x.n = z := ⟨_, rfl⟩
          rw [hz] at CR HIK
          have HZ := Lib.hid hz
          have HH3 := Lib.hid H3
          have HVE := Lib.hid hV
          clear hV hA hsum hz H3
          by_cases hin : 0 ≤ x.n ∧ x.n < hd.trees.length
          · obtain ⟨kk, hkk⟩ : ∃ kk : Nat, x.n = kk := ⟨x.n.toNat, by omega⟩
            have hkl : kk < hd.trees.length := by omega
            have hkv : kk < vs.length := by omega
            obtain ⟨g0, rfl, hg0, hcel⟩ := HH3.out kk hkv
            obtain ⟨q0, _⟩ := hcel kk hkv
            have hzz : vs[kk].1 = z := by
              rw [(HVE.out.at kk hkv hkl).1, ← HZ.out]
              unfold dropK
              rw [dif_pos hin]
              have : x.n.toNat = kk := by omega
              simp only [this]
            rw [hzz] at q0
            rw [hkk] at d2
            clear hin hkk hcel hzz
            go_wp2_with fail
            refine CR.out.mono ?_
            clear CR
            rintro e w5 ⟨rfl, HI5, K5⟩
            have hb5 : Below B w1 w5 := hb.trans K5.below
            have hbw5 : Below w.heap.size w w5 := b1.trans (hb5.mono hwB)
            have hD5 : D ≤ w5.heap.size := Nat.le_trans hDr K5.below.size
            have C := Lib.hid (refHDrop_any (W0 := w) D m hd z w5 (HR.out.keeps K5 hr_held hr_tree heldRow_files) (by omega) hD5)
            have HI5 := Lib.hid HI5
            obtain ⟨r, hr⟩ : ∃ r, dropH hd z = r := ⟨_, rfl⟩
            have hr13 : r.1 ≤ 13 := by rw [← hr]; exact dropH_le _ _
            have hrl : r.2.trees.length ≤ 40 := by rw [← hr]; exact Nat.le_trans (dropH_len _ _) hlen
            rw [hr] at HI5 C ⊢
            clear hr HI HR K5
            go_wp2_with fail
            refine C.out.mono ?_
            clear C
            rintro e w6 ⟨rfl, HR6, K6⟩
            have hb6 : Below B w1 w6 := hb5.trans (K6.below.mono hBD)
            have hbw6 : Below w.heap.size w w6 := b1.trans (hb6.mono hwB)
            have C := Lib.hid (errCoded2 (E := E) (HE.out.ext hbw6).1.1 hr13)
            have HI6 := HI5.out.keeps K6 rh_map rh_held rh_int rh_file
            have HI6 := Lib.hid HI6
            have HR6 := Lib.hid HR6
            have hD6 : D ≤ w6.heap.size := Nat.le_trans hD5 K6.below.size
            generalize (r.1 : Int) = co at C ⊢
            generalize errV E r.1 = cv at C ⊢
            clear HI5 K6
            go_wp2_with fail
            refine C.out.mono ?_
            clear C
            rintro e w7 ⟨rfl, hb7⟩
            have HI7 := Lib.hid (HI6.out.below hb7)
            have HR7 := Lib.hid (HR6.out.below hb7)
            have hb7' : Below B w1 w7 := hb6.trans (hb7.mono (Nat.le_trans hBw hb6.size))
            have hD7 : D ≤ w7.heap.size := Nat.le_trans hD6 hb7.size
            clear HI6 HR6
            go_wp2_with fail
            go_roundw
            case rel => exact ⟨k + 1, r.2, by omega, by go_num, hrl, HI7, HR7, hD7, hb7'⟩
            case measure => simp [intOf]; omega
          · have hzz : x.n = z := by
              rw [← HZ.out]; unfold dropK; rw [dif_neg hin]
            rw [hzz] at d2 hin
            by_cases hneg : z < 0
            · clear hin hzz
              go_wp2_with fail
              refine CR.out.mono ?_
              clear CR
              rintro e w5 ⟨rfl, HI5, K5⟩
              have hb5 : Below B w1 w5 := hb.trans K5.below
              have hbw5 : Below w.heap.size w w5 := b1.trans (hb5.mono hwB)
              have hD5 : D ≤ w5.heap.size := Nat.le_trans hDr K5.below.size
              have C := Lib.hid (refHDrop_any (W0 := w) D m hd z w5 (HR.out.keeps K5 hr_held hr_tree heldRow_files) (by omega) hD5)
              have HI5 := Lib.hid HI5
              obtain ⟨r, hr⟩ : ∃ r, dropH hd z = r := ⟨_, rfl⟩
              have hr13 : r.1 ≤ 13 := by rw [← hr]; exact dropH_le _ _
              have hrl : r.2.trees.length ≤ 40 := by rw [← hr]; exact Nat.le_trans (dropH_len _ _) hlen
              rw [hr] at HI5 C ⊢
              clear hr HI HR K5
              go_wp2_with fail
              refine C.out.mono ?_
              clear C
              rintro e w6 ⟨rfl, HR6, K6⟩
              have hb6 : Below B w1 w6 := hb5.trans (K6.below.mono hBD)
              have hbw6 : Below w.heap.size w w6 := b1.trans (hb6.mono hwB)
              have C := Lib.hid (errCoded2 (E := E) (HE.out.ext hbw6).1.1 hr13)
              have HI6 := HI5.out.keeps K6 rh_map rh_held rh_int rh_file
              have HI6 := Lib.hid HI6
              have HR6 := Lib.hid HR6
              have hD6 : D ≤ w6.heap.size := Nat.le_trans hD5 K6.below.size
              generalize (r.1 : Int) = co at C ⊢
              generalize errV E r.1 = cv at C ⊢
              clear HI5 K6
              go_wp2_with fail
              refine C.out.mono ?_
              clear C
              rintro e w7 ⟨rfl, hb7⟩
              have HI7 := Lib.hid (HI6.out.below hb7)
              have HR7 := Lib.hid (HR6.out.below hb7)
              have hb7' : Below B w1 w7 := hb6.trans (hb7.mono (Nat.le_trans hBw hb6.size))
              have hD7 : D ≤ w7.heap.size := Nat.le_trans hD6 hb7.size
              clear HI6 HR6
              go_wp2_with fail
              go_roundw
              case rel => exact ⟨k + 1, r.2, by omega, by go_num, hrl, HI7, HR7, hD7, hb7'⟩
              case measure => simp [intOf]; omega
            · have hge : (hd.trees.length : Int) ≤ z := by omega
              have h0z : 0 ≤ z := by omega
              clear hin hzz hneg
              go_wp2_with fail
              refine CR.out.mono ?_
              clear CR
              rintro e w5 ⟨rfl, HI5, K5⟩
              have hb5 : Below B w1 w5 := hb.trans K5.below
              have hbw5 : Below w.heap.size w w5 := b1.trans (hb5.mono hwB)
              have hD5 : D ≤ w5.heap.size := Nat.le_trans hDr K5.below.size
              have C := Lib.hid (refHDrop_any (W0 := w) D m hd z w5 (HR.out.keeps K5 hr_held hr_tree heldRow_files) (by omega) hD5)
              have HI5 := Lib.hid HI5
              obtain ⟨r, hr⟩ : ∃ r, dropH hd z = r := ⟨_, rfl⟩
              have hr13 : r.1 ≤ 13 := by rw [← hr]; exact dropH_le _ _
              have hrl : r.2.trees.length ≤ 40 := by rw [← hr]; exact Nat.le_trans (dropH_len _ _) hlen
              rw [hr] at HI5 C ⊢
              clear hr HI HR K5
              go_wp2_with fail
              refine C.out.mono ?_
              clear C
              rintro e w6 ⟨rfl, HR6, K6⟩
              have hb6 : Below B w1 w6 := hb5.trans (K6.below.mono hBD)
              have hbw6 : Below w.heap.size w w6 := b1.trans (hb6.mono hwB)
              have C := Lib.hid (errCoded2 (E := E) (HE.out.ext hbw6).1.1 hr13)
              have HI6 := HI5.out.keeps K6 rh_map rh_held rh_int rh_file
              have HI6 := Lib.hid HI6
              have HR6 := Lib.hid HR6
              have hD6 : D ≤ w6.heap.size := Nat.le_trans hD5 K6.below.size
              generalize (r.1 : Int) = co at C ⊢
              generalize errV E r.1 = cv at C ⊢
              clear HI5 K6
              go_wp2_with fail
              refine C.out.mono ?_
              clear C
              rintro e w7 ⟨rfl, hb7⟩
              have HI7 := Lib.hid (HI6.out.below hb7)
              have HR7 := Lib.hid (HR6.out.below hb7)
              have hb7' : Below B w1 w7 := hb6.trans (hb7.mono (Nat.le_trans hBw hb6.size))
              have hD7 : D ≤ w7.heap.size := Nat.le_trans hD6 hb7.size
              clear HI6 HR6
              go_wp2_with fail
              go_roundw
              case rel => exact ⟨k + 1, r.2, by omega, by go_num, hrl, HI7, HR7, hD7, hb7'⟩
              case measure => simp [intOf]; omega
        | true =>
          rw [hp] at d0
          have C := Lib.hid (ownFiles_any x.v x.l wr (by omega) (hfa.ext hbw))
          have HFA := Lib.hid hfa
          obtain ⟨xo, xc, hxv, _⟩ := hfa.1
          clear hfa hp
          obtain ⟨xv, hxv2⟩ : ∃ xv, x.v = xv := ⟨_, rfl⟩
          rw [hxv2] at C d1 hxv HFA
          subst hxv
          go_wp2_with fail
          refine C.out.mono ?_
          clear C
          rintro e w5 ⟨⟨ov, rfl, HO⟩, hb5⟩
          have C := Lib.hid (heldPut_any (E := E) B b hd ov x.l w5 (fun w' hk => FOwn.arg (hk.owns HO.out heldRow_files)) (by omega) HS.out (HI.out.below hb5) (Nat.le_trans hBr hb5.size) (HE.out.ext (hbw.trans (hb5.mono hbw.size))))
          go_wp2_with fail
          refine C.out.mono ?_
          clear C
          rintro e w6 ⟨⟨ev, rfl, HER⟩, HI6, K6, _⟩
          have HI6 := Lib.hid HI6
          have hHR6 := (HR.out.below hb5).keeps K6 hr_held hr_tree heldRow_files
          have hb6 : Below B w1 w6 := (hb.trans (hb5.mono hBr)).trans K6.below
          have hbw6 : Below w.heap.size w w6 := b1.trans (hb6.mono hwB)
          have hD6 : D ≤ w6.heap.size := Nat.le_trans hDr (Nat.le_trans hb5.size K6.below.size)
          have d6 := (hbw6.cell (p := ⟨b', off + k * 3 + 1, none⟩) hbl).trans ((hbw.cell (p := ⟨b', off + k * 3 + 1, none⟩) hbl).symm.trans d1)
          have C := Lib.hid (refHPut_any (W0 := w) D m hd (.slice xo x.l.length xc) x.l w6 hbw6 (.inl HFA.out) (by omega) HS.out hHR6 (by omega) hD6)
          obtain ⟨r, hr⟩ : ∃ r, putH hd x.l = r := ⟨_, rfl⟩
          have hlen6 : r.2.2.trees.length ≤ 40 := by
            have q := HI6.out.1.len
            have q2 := HI6.out.1.few
            rw [hr] at q q2
            omega
          rw [hr] at HER HI6 C ⊢
          have HER := Lib.hid HER
          clear hr hHR6 HO HI HR K6 hb5
          go_wp2_with fail
          refine C.out.mono ?_
          clear C
          rintro e w7 ⟨rfl, HR7, K7, HB7⟩
          have HR7 := Lib.hid HR7
          have HI7 := Lib.hid (HI6.out.keeps K7 rh_map rh_held rh_int rh_file)
          have hb7 : Below B w1 w7 := hb6.trans (K7.below.mono hBD)
          have hbw7 : Below w.heap.size w w7 := b1.trans (hb7.mono hwB)
          have hD7 : D ≤ w7.heap.size := Nat.le_trans hD6 K7.below.size
          have HER7 : Hid (IsErr E w7 ev r.1) := by
            show IsErr _ _ _ _
            by_cases h0 : r.1.code = 0
            · exact HER.out.fine h0 _
            · exact HER.out.ext (HB7 h0)
          obtain ⟨w8, hw8⟩ : ∃ w8, w7.alloc (.cells #[.int .i64 r.1.code, .int .i64 (r.1.at?.getD (-1))] 49) = w8 := ⟨_, rfl⟩
          obtain ⟨q, hq⟩ : ∃ q, w7.heap.size = q := ⟨_, rfl⟩
          have hal : Below w7.heap.size w7 w8 := by rw [← hw8]; exact (Below.refl _ _).alloc (Nat.le_refl _) _
          have hA8 : w8.heap[q]? = some (.cells #[.int .i64 r.1.code, .int .i64 (r.1.at?.getD (-1))] 49 (0, 0)) := by rw [← hw8, ← hq]; exact heap_alloc_new _ _
          have c0 : w8.cell? ⟨q, 0, none⟩ = some (.int .i64 r.1.code) := by rw [Lib.cell_of_heap hA8]; rfl
          have c1 : w8.cell? ⟨q, 1, none⟩ = some (.int .i64 (r.1.at?.getD (-1))) := by rw [Lib.cell_of_heap hA8]; rfl
          have hbw8 : Below w.heap.size w w8 := hbw7.trans (hal.mono hbw7.size)
          have C := Lib.hid (faulted_any (E := E) (HE.out.ext hbw8).1.1 (HER7.out.ext hal))
          have HI8 := Lib.hid (HI7.out.below hal)
          have HR8 := Lib.hid (HR7.out.below hal)
          have hb8 : Below B w1 w8 := hb7.trans (hal.mono (Nat.le_trans hBw hb7.size))
          have hD8 : D ≤ w8.heap.size := Nat.le_trans hD7 hal.size
          unfold erA at C ⊢
          have HW8 := Lib.hid hw8
          have HQ := Lib.hid hq
          obtain ⟨fc, hfc⟩ : ∃ fc : Int, (r.1.code : Int) = fc := ⟨_, rfl⟩
          obtain ⟨fa, hfa2⟩ : ∃ fa : Int, r.1.at?.getD (-1) = fa := ⟨_, rfl⟩
          rw [hfc] at c0
          rw [hfa2] at c1
          rw [hfc, hfa2] at C HW8 ⊢
          obtain ⟨z, hz⟩ : ∃ z : Int, r.2.1 = z := ⟨_, rfl⟩
          rw [hz]
          have hzz : (z != z) = false := by simp
          clear hw8 hq hal hA8 hfc hfa2 hz HER HER7 HI6 HI7 HR7 K7 HB7
          go_wp2_with fail
          rw [HW8.out, HQ.out]
          go_wp2_with fail
          refine C.out.mono ?_
          clear C
          rintro e w9 ⟨rfl, hb9⟩
          have HI9 := Lib.hid (HI8.out.below hb9)
          have HR9 := Lib.hid (HR8.out.below hb9)
          have hb9' : Below B w1 w9 := hb8.trans (hb9.mono (Nat.le_trans hBw hb8.size))
          have hD9 : D ≤ w9.heap.size := Nat.le_trans hD8 hb9.size
          clear HI8 HR8 c0 c1
          go_wp2_with fail
          go_roundw
          case rel => exact ⟨k + 1, r.2.2, by omega, by go_num, hlen6, HI9, HR9, hD9, hb9'⟩
          case measure => simp [intOf]; omega
      · obtain rfl : k = L.length := by omega
        have H0 := Lib.hid HI.out.1
        have C := Lib.hid (heldCopy_any B b hd wr HI.out hBr)
        clear HM HX HSH
        go_wp2_with fail
        refine C.out.mono ?_
        clear C
        rintro e w5 ⟨⟨cb, rfl, HC5, hcb⟩, hb5⟩
        have HI5 := Lib.hid (HI.out.below hb5)
        have HR5 := Lib.hid (HR.out.below hb5)
        have hD5 : D ≤ w5.heap.size := Nat.le_trans hDr hb5.size
        have hbw5 : Below w.heap.size w w5 := hbw.trans (hb5.mono hbw.size)
        have C1 := Lib.hid (heldSums_any B b hd w5 HI5.out)
        have hs100 : hd.sums.length ≤ 100000 := by rw [sums_len]; omega
        clear HI HR hb5
        go_wp2_with fail
        refine C1.out.mono ?_
        clear C1
        rintro e w6 ⟨⟨s1, rfl, HS1⟩, hb6⟩
        have C2 := Lib.hid (refHSums_any w D m hd w6 (HR5.out.below hb6) (by omega))
        go_wp2_with fail
        refine C2.out.mono ?_
        clear C2
        rintro e w7 ⟨⟨s2, rfl, HS2⟩, hb7⟩
        have hb57 := hb6.trans (hb7.mono hb6.size)
        have C3 := Lib.hid (sameInts_any (IOwn.ext HS1.out hb7).row HS2.out.row)
        rw [show decide (hd.sums = hd.sums) = true from decide_eq_true rfl] at C3
        clear HS1 HS2
        go_wp2_with fail
        refine C3.out.mono ?_
        clear C3
        rintro e w8 ⟨rfl, hb8⟩
        have hb58 := hb57.trans (hb8.mono hb57.size)
        have C1 := Lib.hid (heldSums_any B cb hd w8 (HC5.out.below hb58))
        go_wp2_with fail
        refine C1.out.mono ?_
        clear C1
        rintro e w9 ⟨⟨s1, rfl, HS1⟩, hb9⟩
        have hb59 := hb58.trans (hb9.mono hb58.size)
        have C2 := Lib.hid (refHSums_any w D m hd w9 (HR5.out.below hb59) (by omega))
        go_wp2_with fail
        refine C2.out.mono ?_
        clear C2
        rintro e w10 ⟨⟨s2, rfl, HS2⟩, hb10⟩
        have hb510 := hb59.trans (hb10.mono hb59.size)
        have C3 := Lib.hid (sameInts_any (IOwn.ext HS1.out hb10).row HS2.out.row)
        rw [show decide (hd.sums = hd.sums) = true from decide_eq_true rfl] at C3
        clear HS1 HS2
        go_wp2_with fail
        refine C3.out.mono ?_
        clear C3
        rintro e w11 ⟨rfl, hb11⟩
        have hb511 := hb510.trans (hb11.mono hb510.size)
        have C1 := Lib.hid (heldSame_any B cb B b hd hd w11 (HC5.out.below hb511) (HI5.out.below hb511) rfl)
        go_wp2_with fail
        refine C1.out.mono ?_
        clear C1
        rintro e w12 ⟨rfl, hb12⟩
        have hb512 := hb511.trans (hb12.mono hb511.size)
        go_wp2_with fail
        refine (heldSame_nil _ _).mono ?_
        rintro e w13 ⟨rfl, rfl⟩
        go_wp2_with fail
        refine (heldSame_nils _).mono ?_
        rintro e w14 ⟨rfl, rfl⟩
        have HIe := Lib.hid (HI5.out.below hb512)
        have HRe := Lib.hid (HR5.out.below hb512)
        have hbe : Below w.heap.size w w14 := hbw5.trans (hb512.mono hbw5.size)
        have hne : (m : Nat) < w14.heap.size := by
          obtain ⟨lv, vs, hA, _⟩ := HRe.out
          exact (Array.getElem?_eq_some_iff.1 hA.blk).1
        clear HI5 HR5 HC5 hb6 hb7 hb8 hb9 hb10 hb11 hb12 hb57 hb58 hb59 hb510 hb511 hb512
        go_wp2_with fail
        go_loopw [17] (fun i wq => ∃ q : Nat, q ≤ hd.trees.length ∧ i = .int .i64 q ∧ Below w14.heap.size w14 wq) (fun i _ => hd.trees.length - (intOf i).toNat)
        case atStart => exact ⟨0, Nat.zero_le _, rfl, Below.refl _ _⟩
        case round =>
          obtain ⟨q, hq, rfl, hbq⟩ := hrel
          have HRq := HRe.out.below hbq
          obtain ⟨lv, vs, hA, hV⟩ := HRq
          obtain ⟨_, r1, _⟩ := rheld_ready hA.blk
          have hvl := hV.len
          obtain ⟨ro, rc, rfl, hrc, hrm, _, H3⟩ := trees_parts hA.row
          rw [hvl] at hrc
          have HH3 := Lib.hid H3
          have HVE := Lib.hid hV
          have hbeq := hbe.trans (hbq.mono hbe.size)
          clear hV H3 hA
          by_cases hqt : q < hd.trees.length
          · have hqv : q < vs.length := by omega
            obtain ⟨g0, rfl, hg0, hcel⟩ := HH3.out q hqv
            obtain ⟨q0, q1⟩ := hcel q hqv
            obtain ⟨hz1, hz2⟩ := HVE.out.at q hqv hqt
            rw [hz1] at q0
            have HT := Lib.hid (hz2.arg hbeq)
            have hr2 := H0.out.right _ (List.getElem_mem hqt)
            have HG : Hid (getL hd.trees (hd.trees[q]).1 = some (hd.trees[q]).2) := getL_at hqt H0.out.nodup
            have hI64 : I64 (hd.trees[q]).1 := by rw [hr2.2]; exact treeSum_i64 _
            have C := Lib.hid (heldGet_any (E := E) B b hd (hd.trees[q]).1 hI64 wr (HIe.out.below hbq) (HE.out.ext hbeq).1.1)
            obtain ⟨tl, htl⟩ : ∃ tl, (hd.trees[q]).2 = tl := ⟨_, rfl⟩
            have hsm := (right_len hr2.1).1
            rw [htl] at HT HG hsm
            obtain ⟨z, hz⟩ : ∃ z, (hd.trees[q]).1 = z := ⟨_, rfl⟩
            rw [hz] at q0 C HG
            obtain ⟨tv, htv⟩ : ∃ tv, (vs[q]).2 = tv := ⟨_, rfl⟩
            rw [htv] at q1 HT
            obtain ⟨too, tc, htvs, _⟩ := HT.out.1
            subst htvs
            clear hcel hz1 hz2 hr2 hI64 htl hz htv
            go_wp2_with fail
            refine C.out.mono ?_
            clear C
            rintro e w15 ⟨⟨fl, fv, ho, rfl, HF⟩ | ⟨ho, _⟩, hb15⟩
            · rw [HG.out] at ho
              obtain rfl : tl = fl := Option.some.inj ho
              have C := Lib.hid (sameTrees_same (FOwn.arg HF.out).1 (HT.out.1.ext hb15) (by omega))
              obtain ⟨fo, fc, hfvs⟩ := FOwn.shape HF.out
              subst hfvs
              have r1' := (hb15.cell (p := ⟨m, 1, none⟩) (Nat.lt_of_lt_of_le hne hbq.size)).trans r1
              have q1' := (hb15.cell (p := ⟨g0, q * 2 + 1, none⟩) hg0).trans q1
              clear ho HF
              go_wp2_with fail
              refine C.out.mono ?_
              clear C
              rintro e w16 ⟨rfl, hb16⟩
              have hbn : Below w14.heap.size w14 w16 := (hbq.trans (hb15.mono hbq.size)).trans (hb16.mono (Nat.le_trans hbq.size hb15.size))
              clear r1' q1' r1 q0 q1
              go_wp2_with fail
              go_roundw
              case rel => exact ⟨q + 1, by omega, by go_num, hbn⟩
              case measure => simp [intOf]; omega
            · rw [HG.out] at ho; cases ho
          · obtain rfl : q = hd.trees.length := by omega
            have C := Lib.hid (heldGet_any (E := E) B b hd n0 hn0 wr (HIe.out.below hbq) (HE.out.ext hbeq).1.1)
            go_wp2_with fail
            refine C.out.mono ?_
            clear C
            rintro e w15 ⟨⟨fl, fv, ho, rfl, HF⟩ | ⟨ho, rfl⟩, hb15⟩
            · have hb15w := hbeq.trans (hb15.mono hbeq.size)
              have HRz := Lib.hid ((HRe.out.below hbq).below hb15)
              have hm0 : n0 ∈ hd.sums := List.mem_map.2 ⟨_, getL_some ho, rfl⟩
              obtain ⟨kx, hkx⟩ := Option.isSome_iff_exists.1 (ixOf_isSome.2 hm0)
              have HQ : Hid (∀ q', Calls Tryz.prog 28 #[.pointer (some ⟨m, 0, none⟩), .int .i64 n0] (w15.drewN q') fun e w' => e = .returned (.int .i64 (kx : Int)) ∧ w' = w15.drewN q') := fun q' => by
                have := refHFind_any w D m hd n0 (w15.drewN q') (HRz.out.below (below_drewN _ _ _)) (by omega)
                rw [hkx] at this
                exact this
              have hk0 : decide ((0 : Int) ≤ (kx : Int)) = true := decide_eq_true (by omega)
              clear ho HF hkx hm0
              go_wp2_with fail
              go_quiet ((go_at_call 28; exact Calls.quiet_of_same (HQ.out _)))
              go_wp2_with fail
              go_ret
              exact ⟨rfl, hb15w.trans (below_drewN _ _ _)⟩
            · have hb15w := hbeq.trans (hb15.mono hbeq.size)
              have HRz := Lib.hid ((HRe.out.below hbq).below hb15)
              have hm0 : ixOf n0 hd.sums = none := ixOf_none_iff.2 fun hm => by
                obtain ⟨l, hl⟩ := getL_mem hm
                rw [hl] at ho; cases ho
              have HQ : Hid (Calls Tryz.prog 28 #[.pointer (some ⟨m, 0, none⟩), .int .i64 n0] w15.drew fun e w' => e = .returned (.int .i64 (-1)) ∧ w' = w15.drew) := by
                have := refHFind_any w D m hd n0 w15.drew (HRz.out.below (below_drewN _ _ 1)) (by omega)
                rw [hm0] at this
                exact this
              have HC : Hid (∀ W, Below w15.heap.size w15 W → Calls Tryz.prog 16 #[sentV E 5, .int .i64 6] W fun e w' => e = .returned (.bool true) ∧ Below W.heap.size W w') := fun W hW => errCoded2 (c := 6) (HE.out.ext (hb15w.trans (hW.mono hb15w.size))).1.1 (by decide)
              clear ho hm0
              go_wp2_with fail
              go_region_held3 (fun W : World => True) (trivial)
                (first
                  | (go_at_call 28; refine HQ.out.mono ?_; rintro e w16 ⟨rfl, hw16⟩; have hb16 : Below w15.heap.size w15 w16 := (by rw [hw16]; exact below_drewN _ _ 1); clear hw16)
                  | (go_at_call 16; refine (HC.out _ hb16).mono ?_; rintro e w17 ⟨rfl, hb17⟩))
              have hbf := hb15w.trans ((hb16.trans (hb17.mono hb16.size)).mono hb15w.size)
              go_wp2_with fail
              go_ret
              exact ⟨rfl, hbf⟩
end Go.Proofs.YtjebljhhbnfpfaaGreatDoor
