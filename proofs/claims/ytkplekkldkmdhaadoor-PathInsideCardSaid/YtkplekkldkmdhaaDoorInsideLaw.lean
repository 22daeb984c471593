/- chandlerylaw1.PathInside: the walk. -/
import Derived.Test.YtkplekkldkmdhaaDoorStripLaw
import Derived.Test.YtkplekkldkmdhaaDoorRefCut
namespace Go.Proofs.YtkplekkldkmdhaaDoor
open Go Go.RowKit

theorem part_len {x : List UInt8} (h : partB x = true) : x.length ≤ 12 := by
  unfold partB at h
  simp only [Bool.and_eq_true, decide_eq_true_eq] at h
  exact h.1.1.1.2
theorem parts_join_len : ∀ w : List (List UInt8), w.all partB = true → ([47].intercalate w : List UInt8).length ≤ w.length * 13
  | [], _ => by simp [List.intercalate]
  | [x], h => by
    rw [List.all_cons, Bool.and_eq_true] at h
    have := part_len h.1
    simp [List.intercalate]; omega
  | x :: y :: r, h => by
    rw [List.all_cons, Bool.and_eq_true] at h
    have := part_len h.1
    have ih := parts_join_len (y :: r) h.2
    rw [join_cons, List.length_append, List.length_cons]
    simp only [List.length_cons] at ih ⊢; omega
theorem clean_len {s : List UInt8} (h : cleanE s = 0) : (cleanT s).length ≤ 78 := by
  obtain ⟨_, _, h3, h4, h5⟩ := cleanE_parts h
  rw [h5]
  have := parts_join_len _ h3
  omega

/-- What is cut out of what is clean. -/
theorem clean_pieces {s : List UInt8} (h : cleanE s = 0) {x : List UInt8} (hx : x ∈ cutL 47 (cleanT s)) : x ≠ [46] ∧ x ≠ [46, 46] ∧ (x = [] → cleanT s = []) := by
  by_cases hc : cleanT s = []
  · rw [hc] at hx
    have h2 : cutL 47 [] = [[]] := rfl
    rw [h2, List.mem_singleton] at hx
    subst hx
    exact ⟨by decide, by decide, fun _ => hc⟩
  · obtain ⟨h1, _⟩ := partsE_ok ((clean_again h).2.2 hc).1
    obtain ⟨n1, n2, n3⟩ := part_ne (List.all_eq_true.1 h1 x hx)
    exact ⟨n2, n3, fun e => absurd e n1⟩
theorem inB_join {d c : List UInt8} (hd : partsE d = 0) (hp : partsE (d ++ 47 :: c) = 0) : inB (d ++ 47 :: c) d = true := by
  unfold inB
  have hx : Lib.hasPrefix (d ++ 47 :: c) (d ++ [47]) = true := by
    rw [show d ++ 47 :: c = (d ++ [47]) ++ c by simp]
    exact hasPrefix_of _ _
  rw [hp, hd, hx]; simp

/-- The pieces, as the walk of the law's loop asks of each. -/
def PieceOk (c z : ByteArray) : Prop := (z.toList == [46]) = false ∧ (z.toList == [46, 46]) = false ∧ (z.toList.isEmpty = true → c.toList.isEmpty = true)
theorem piece_ok {s c : ByteArray} {zs : List ByteArray} (h : cleanE (bl s) = 0) (hc : bl c = cleanT (bl s)) (hz : zs.map bl = cutL 47 (bl c)) : ∀ z ∈ zs, PieceOk c z := by
  intro z hm
  have hx : bl z ∈ cutL 47 (cleanT (bl s)) := by rw [← hc, ← hz]; exact List.mem_map.2 ⟨z, hm, rfl⟩
  obtain ⟨h1, h2, h3⟩ := clean_pieces h hx
  refine ⟨beq_eq_false_iff_ne.2 (by rw [toList_bl]; exact h1), beq_eq_false_iff_ne.2 (by rw [toList_bl]; exact h2), fun he => ?_⟩
  rw [toList_bl] at he ⊢
  rw [hc, h3 (List.isEmpty_iff.1 he)]; rfl

set_option maxHeartbeats 1000000 in
set_option maxRecDepth 100000 in
theorem pathInside_walk {E : Nat → Addr} {w : World} (hE : PTEnv E w) (s d : ByteArray) :
    Calls Tryd.prog 7 #[.string s, .string d] w fun e w' => e = .returned (.bool true) ∧ Below w.heap.size w w' := by
  have C := Lib.hid (pathed_any w hE)
  have HE := Lib.hid hE
  clear hE
  go_enter Tryd.func7, Tryd.ntmps7
  go_wp2_with fail
  refine C.out.mono ?_
  clear C
  rintro e w1 ⟨rfl, b1⟩
  by_cases ls : s.size ≤ 100
  · by_cases ld : d.size ≤ 100
    · have C := Lib.hid (clean_any s w1 (by omega) (HE.out.ext b1).clean)
      go_wp2_with fail
      refine C.out.mono ?_
      clear C
      rintro e w2 ⟨⟨c, rfl, HC⟩, hb⟩
      have b2 := b1.trans (hb.mono b1.size)
      clear hb
      cases h0 : cleanE (bl s) with
      | succ k =>
        obtain rfl : c = ⟨#[]⟩ := blInj (HC.out.trans (by unfold cleanT; rw [h0]; rfl))
        rw [show errV E (k + 1) = sentV E k from rfl]
        clear h0 HC
        go_wp2_with fail
        go_ret
        exact ⟨rfl, b2⟩
      | zero =>
        have H0 := Lib.hid h0
        have HA := Lib.hid (clean_again h0)
        have lc : c.size ≤ 78 := by rw [← bl_length, HC.out]; exact clean_len h0
        rw [show errV E 0 = .nilIface from rfl]
        clear h0
        have C := Lib.hid (clean_any c w2 (by omega) (HE.out.ext b2).clean)
        go_wp2_with fail
        refine C.out.mono ?_
        clear C
        rintro e w3 ⟨⟨c2, rfl, HC2⟩, hb⟩
        have b3 := b2.trans (hb.mono b2.size)
        clear hb
        have e1 : cleanE (bl c) = 0 := by rw [HC.out]; exact HA.out.1
        rw [e1, show errV E 0 = .nilIface from rfl]
        obtain rfl : c2 = c := blInj (HC2.out.trans (by rw [HC.out]; exact HA.out.2.1))
        clear e1 HC2
        have q0 : (c2.toList == c2.toList) = true := beq_iff_eq.2 rfl
        -- the rest, from the cut on, in whatever world the check has left
        have REST : Hid (∀ W, Below w.heap.size w W → Calls Tryd.prog 36 #[.string c2, .int .u8 47] W (CutPost c2 47 W)) := fun W _ => refCut_any c2 47 W (by omega)
        cases qe : c2.toList.isEmpty with
        | true =>
          go_wp2_with fail
          refine (REST.out w3 b3).mono ?_
          clear REST
          rintro e w4 ⟨v, zs, rfl, HR, HZ, hl, hb⟩
          have b4 := b3.trans (hb.mono b3.size)
          clear hb
          obtain ⟨ao, cap, rfl, h1, h2, H3⟩ := HR.out.parts
          have HM := Lib.hid H3
          have HP := Lib.hid (piece_ok H0.out HC.out HZ.out)
          clear H3 HR
          go_wp2_with fail
          go_loop [10] (fun i => ∃ k : Nat, k ≤ zs.length ∧ i = .int .i64 k) (fun i => zs.length - (intOf i).toNat)
          case atStart => exact ⟨0, Nat.zero_le _, rfl⟩
          case round =>
            obtain ⟨k, hk, rfl⟩ := hrel
            by_cases hlt : k < zs.length
            · obtain ⟨b, off, rfl, hbl, hcell⟩ := HM.out k hlt
              have cl := hcell k hlt
              obtain ⟨p1, p2, p3⟩ := HP.out zs[k] (List.getElem_mem hlt)
              clear hcell
              generalize zs[k] = z at cl p1 p2 p3
              cases p4 : z.toList.isEmpty
              all_goals
                clear p3
                go_wp2_with fail
                go_round
                case rel => exact ⟨k + 1, by omega, by go_num⟩
                case measure => simp [intOf]; omega
            · have C := Lib.hid (pathCheck_any d w4 (by omega) (HE.out.ext b4).clean.path)
              obtain rfl : k = zs.length := by omega
              go_wp2_with fail
              refine C.out.mono ?_
              clear C
              rintro e w5 ⟨rfl, hb⟩
              have b5 := b4.trans (hb.mono b4.size)
              cases partsE (bl d) with
              | zero =>
                rw [show errV E 0 = .nilIface from rfl]
                go_wp2_with fail
                go_ret
                exact ⟨rfl, b5⟩
              | succ k =>
                rw [show errV E (k + 1) = sentV E k from rfl]
                go_wp2_with fail
                go_ret
                exact ⟨rfl, b5⟩
        | false =>
          have HNE : Hid (cleanT (bl s) ≠ []) := by
            show _ ≠ _
            rw [← HC.out, ← toList_bl]
            intro h; rw [h] at qe; cases qe
          have C := Lib.hid (pathCheck_any c2 w3 (by omega) (HE.out.ext b3).clean.path)
          have e2 : partsE (bl c2) = 0 := by rw [HC.out]; exact (HA.out.2.2 HNE.out).1
          go_wp2_with fail
          refine C.out.mono ?_
          clear C
          rintro e w3 ⟨rfl, hb⟩
          rw [e2, show errV E 0 = .nilIface from rfl]
          have b3' := b3.trans (hb.mono b3.size)
          clear hb b3 e2
          go_wp2_with fail
          refine (REST.out w3 b3').mono ?_
          clear REST
          rintro e w4 ⟨v, zs, rfl, HR, HZ, hl, hb⟩
          have b4 := b3'.trans (hb.mono b3'.size)
          clear hb
          obtain ⟨ao, cap, rfl, h1, h2, H3⟩ := HR.out.parts
          have HM := Lib.hid H3
          have HP := Lib.hid (piece_ok H0.out HC.out HZ.out)
          clear H3 HR
          go_wp2_with fail
          go_loop [10] (fun i => ∃ k : Nat, k ≤ zs.length ∧ i = .int .i64 k) (fun i => zs.length - (intOf i).toNat)
          case atStart => exact ⟨0, Nat.zero_le _, rfl⟩
          case round =>
            obtain ⟨k, hk, rfl⟩ := hrel
            by_cases hlt : k < zs.length
            · obtain ⟨b, off, rfl, hbl, hcell⟩ := HM.out k hlt
              have cl := hcell k hlt
              obtain ⟨p1, p2, p3⟩ := HP.out zs[k] (List.getElem_mem hlt)
              clear hcell
              generalize zs[k] = z at cl p1 p2 p3
              have p4 : z.toList.isEmpty = false := by
                cases h : z.toList.isEmpty with
                | false => rfl
                | true => rw [p3 h] at qe; cases qe
              clear p3
              go_wp2_with fail
              go_round
              case rel => exact ⟨k + 1, by omega, by go_num⟩
              case measure => simp [intOf]; omega
            · have C := Lib.hid (pathCheck_any d w4 (by omega) (HE.out.ext b4).clean.path)
              obtain rfl : k = zs.length := by omega
              go_wp2_with fail
              refine C.out.mono ?_
              clear C
              rintro e w5 ⟨rfl, hb⟩
              have b5 := b4.trans (hb.mono b4.size)
              clear hb
              cases hd : partsE (bl d) with
              | succ k =>
                rw [show errV E (k + 1) = sentV E k from rfl]
                clear hd
                go_wp2_with fail
                go_ret
                exact ⟨rfl, b5⟩
              | zero =>
                rw [show errV E 0 = .nilIface from rfl]
                have HD := Lib.hid hd
                clear hd
                have HJ := Lib.hid (join_in HD.out H0.out HNE.out)
                have C := Lib.hid (pathJoin_any d s w5 (by omega) (by omega) (HE.out.ext b5).clean)
                go_wp2_with fail
                refine C.out.mono ?_
                clear C
                rintro e w6 ⟨⟨j, rfl, HX⟩, hb⟩
                have b6 := b5.trans (hb.mono b5.size)
                clear hb
                rcases HJ.out.1 with hj | hj
                · have H6 := Lib.hid (HJ.out.2 hj)
                  have lj : j.size ≤ 78 := by rw [← bl_length, HX.out]; exact clean_len hj
                  rw [hj, show errV E 0 = .nilIface from rfl]
                  clear hj
                  have C := Lib.hid (pathJoin_any d c2 w6 (by omega) (by omega) (HE.out.ext b6).clean)
                  go_wp2_with fail
                  refine C.out.mono ?_
                  clear C
                  rintro e w7 ⟨⟨j2, rfl, HX2⟩, hb⟩
                  have b7 := b6.trans (hb.mono b6.size)
                  clear hb
                  have e3 : cleanE (joinS (bl d) (bl c2)) = 0 := by rw [HC.out]; exact H6.out.1
                  rw [e3, show errV E 0 = .nilIface from rfl]
                  obtain rfl : j2 = j := blInj (by rw [HX2.out, HC.out, HX.out]; exact H6.out.2.1)
                  have HI : Hid (inB (bl j2) (bl d) = true) := by
                    show _ = _
                    rw [HX.out, H6.out.2.2.1]
                    exact inB_join HD.out (by rw [← H6.out.2.2.1]; exact H6.out.2.2.2)
                  have q3 : (j2.toList == (d ++ ⟨#[47]⟩ ++ c2).toList) = true := by
                    rw [beq_iff_eq, toList_bl, toList_bl, blAdd, blAdd, HX.out, H6.out.2.2.1, HC.out]; simp [bl]
                  have q4 : (j2.toList == j2.toList) = true := beq_iff_eq.2 rfl
                  clear e3 HX2
                  have C := Lib.hid (pathIn_any j2 d w7 (by omega) (by omega) (HE.out.ext b7).clean.path)
                  rw [HI.out] at C
                  go_wp2_with fail
                  refine C.out.mono ?_
                  clear C
                  rintro e w8 ⟨rfl, hb⟩
                  have b8 := b7.trans (hb.mono b7.size)
                  clear hb
                  go_wp2_with fail
                  go_ret
                  exact ⟨by simp, b8⟩
                · rw [hj, show errV E 8 = sentV E 7 from rfl]
                  clear hj
                  have C : Hid (Calls Tryd.prog 24 #[sentV E 7, .int .i64 8] w6 fun e w' => e = .returned (.bool true) ∧ Below w6.heap.size w6 w') := errCoded1 (c := 8) (HE.out.ext b6).env (by decide)
                  go_wp2_with fail
                  refine C.out.mono ?_
                  clear C
                  rintro e w7 ⟨rfl, hb⟩
                  go_wp2_with fail
                  go_ret
                  exact ⟨rfl, b6.trans (hb.mono b6.size)⟩
    · go_wp2_with fail
      go_ret
      exact ⟨rfl, b1⟩
  · go_wp2_with fail
    go_ret
    exact ⟨rfl, b1⟩
end Go.Proofs.YtkplekkldkmdhaaDoor
