/- The reference's LinkParts, LinkError by their contracts. -/
import Derived.Test.YtpafddeakanopaaGreatDoorRefPaths
import Derived.Test.YtpafddeakanopaaGreatDoorRefLinkPlain
import Derived.Test.YtpafddeakanopaaGreatDoorRefBegins
namespace Go.Proofs.YtpafddeakanopaaGreatDoor
open Go Go.RowKit

/-- What the reference's LinkParts hands back. -/
def RefLinkPost (s : ByteArray) (w : World) (e : Ending) (w' : World) : Prop :=
  ∃ k h p : ByteArray, e = .returned (.tuple #[.string k, .string h, .string p, .int .i64 (lkE (bl s))]) ∧ Hid (lkE (bl s) = 0 → bl h = lkH (bl s) ∧ bl p = lkP (bl s)) ∧ p.size ≤ s.size ∧ Below w.heap.size w w'
theorem RefLinkPost.bad {s : ByteArray} {w w' : World} {c : Nat} {n : Int} (h : Hid (lkE (bl s) = c + 1)) (hn : n = (c + 1 : Nat)) (hb : Below w.heap.size w w') :
    RefLinkPost s w (.returned (.tuple #[.string ⟨#[]⟩, .string ⟨#[]⟩, .string ⟨#[]⟩, .int .i64 n])) w' :=
  ⟨⟨#[]⟩, ⟨#[]⟩, ⟨#[]⟩, by rw [h.out, hn], fun h0 => by have := h.out; omega, Nat.zero_le _, hb⟩

theorem occ_ext (s : ByteArray) (k : Nat) : Lib.hasPrefix (bl (s.extract k s.size)) (bl ⟨#[58, 47, 47]⟩) = Lib.occAt (bl s) sepL k := by
  rw [blExtract, List.take_of_length_le (by rw [List.length_drop, bl_length]; omega)]
  rfl

set_option maxHeartbeats 2000000 in
set_option maxRecDepth 100000 in
theorem refLinkParts_any (s : ByteArray) (w : World) (hs : s.size ≤ 100000) : Calls Tryz.prog 29 #[.string s] w (RefLinkPost s w) := by
  go_enter Tryz.func29, Tryz.ntmps29
  go_wp2_with fail
  go_loopw [6] (fun i w1 => w1 = w ∧ ∃ k : Nat, k ≤ s.size ∧ i = .int .i64 k ∧ Hid (Lib.NoOcc (bl s) sepL k)) (fun i _ => s.size - (intOf i).toNat)
  case atStart => exact ⟨rfl, 0, Nat.zero_le _, rfl, Lib.NoOcc.zero _ _⟩
  case round =>
    obtain ⟨rfl, k, hk, rfl, HN⟩ := hrel
    by_cases hlt : k < s.size
    · have sl := slice_from s k k hk rfl
      go_wp2_with fail
      refine (refBegins_any (s.extract k s.size) ⟨#[58, 47, 47]⟩ _).mono ?_
      rintro e w1 ⟨rfl, rfl⟩
      rw [occ_ext s k]
      cases ho : Lib.occAt (bl s) sepL k with
      | false =>
        have H2 : Hid (Lib.NoOcc (bl s) sepL (k + 1)) := HN.out.succ ho
        clear HN ho
        go_wp2_with fail
        go_roundw
        case rel => exact ⟨trivial, k + 1, by omega, by go_num, H2⟩
        case measure => simp [intOf]; omega
      | true =>
        obtain ⟨g1, g2, g3, g4⟩ := lk_hit HN.out (by rw [bl_length]; exact hlt) ho
        rw [bl_length] at g4
        have G1 := Lib.hid g1; have G2 := Lib.hid g2; have G3 := Lib.hid g3
        clear g1 g2 g3 ho HN sl
        have hne : ((k : Int) == (s.size : Int)) = false := by rw [beq_eq_false_iff_ne]; omega
        go_wp2_with fail
        go_loopw [8] (fun j w1 => w1 = wr ∧ ∃ q : Nat, k + 3 ≤ q ∧ q ≤ s.size ∧ j = .int .i64 q ∧ Hid ((47 : UInt8) ∉ ((bl s).drop (k + 3)).take (q - (k + 3)))) (fun j _ => s.size - (intOf j).toNat)
        case atStart => exact ⟨rfl, k + 3, Nat.le_refl _, g4, by go_num, by show ¬ _; simp⟩
        case round =>
          obtain ⟨rfl, q, hq1, hq2, rfl, HQ⟩ := hrel
          by_cases hqs : q < s.size
          · have ix : ∀ W : World, (Instr.index 9 (.string s) (.int .i64 (q : Int))).run Tryz.prog W = .ok (.int .u8 s[q].toNat) W := index_nat s q q hqs rfl
            by_cases hc : s[q] = 47
            · have b1 : ((s[q].toNat : Int) != 47) = false := by rw [hc]; rfl
              have b2 : ((q : Int) == (s.size : Int)) = false := by rw [beq_eq_false_iff_ne]; omega
              have eR : lkR (bl s) = ((bl s).drop (k + 3)).take (q - (k + 3)) ++ 47 :: (bl s).drop (q + 1) := by
                rw [G3.out]
                have h1 : ((bl s).drop (k + 3)).drop (q - (k + 3)) = 47 :: (bl s).drop (q + 1) := by
                  rw [List.drop_drop, show k + 3 + (q - (k + 3)) = q by omega, drop_cons s q hqs, hc]
                rw [← h1, List.take_append_drop]
              obtain ⟨f1, f2, f3⟩ := lk_slash eR HQ.out
              have eh : bl (s.extract (k + 3) q) = lkH (bl s) := by rw [f2, blExtract]
              have ep : bl (s.extract (q + 1) s.size) = lkP (bl s) := by
                rw [f3, blExtract, List.take_of_length_le (by rw [List.length_drop, bl_length]; omega)]
              have ek : bl (s.extract 0 k) = lkK (bl s) := by rw [G2.out, blExtract]; simp
              have F1 := Lib.hid f1; have EH := Lib.hid eh; have EP := Lib.hid ep; have EK := Lib.hid ek
              have HX := Lib.hid (show lkE (bl s) = if !(kinds.contains (lkK (bl s))) then 4 else if !(partB (lkH (bl s))) then 5 else 0 by unfold lkE; rw [G1.out, f1]; rfl)
              have s1 := slice_to s k k (by omega) rfl
              have s2 := slice_nat s (k + 3) q (k + 3) q hq1 hq2 (by omega) rfl
              have s3 := slice_from s (q + 1) (q + 1) (by omega) (by omega)
              clear f1 f2 f3 eh ep ek eR HQ hc
              go_wp2_with fail
              have RW : Row encStr 1 (wr.alloc (.cells #[.string ⟨#[104, 116, 116, 112]⟩, .string ⟨#[102, 116, 112]⟩, .string ⟨#[102, 105, 108, 101]⟩] 9)) (.slice (some ⟨wr.heap.size, 0, none⟩) 3 3) kindsB :=
                Row.block1 Value.string wr kindsB 9 (by rw [maxLen_eq]; decide) wr.heap.size 3 rfl rfl
              refine (refInTexts_any (s.extract 0 k) RW (by decide)).mono ?_
              rintro e w1 ⟨rfl, hb⟩
              have b0 : Below wr.heap.size wr w1 := ((Below.refl _ wr).alloc (Nat.le_refl _) _).trans (hb.mono (by simp))
              rw [EK.out, show kindsB.map bl = kinds from rfl]
              clear hb RW
              cases hk : kinds.contains (lkK (bl s)) with
              | false =>
                have HY : Hid (lkE (bl s) = 3 + 1) := by show _ = _; rw [HX.out, hk]; rfl
                clear HX hk
                go_wp2_with fail
                refine bodyPost_ret (results_tmp4 rfl _ _ _) rfl ?_
                exact RefLinkPost.bad HY rfl b0
              | true =>
                have HY : Hid (lkE (bl s) = if !(partB (lkH (bl s))) then 5 else 0) := by show _ = _; rw [HX.out, hk]; rfl
                clear HX hk
                have sz : (s.extract (k + 3) q).size ≤ s.size := by rw [ByteArray.size_extract]; omega
                go_wp2_with fail
                refine (refIsPart_any (s.extract (k + 3) q) w1 (by omega)).mono ?_
                rintro e w2 ⟨rfl, hb2⟩
                have b3 := b0.trans (hb2.mono b0.size)
                rw [EH.out]
                cases hp : partB (lkH (bl s)) with
                | false =>
                  have HZ : Hid (lkE (bl s) = 4 + 1) := by show _ = _; rw [HY.out, hp]; rfl
                  clear HY hp
                  go_wp2_with fail
                  refine bodyPost_ret (results_tmp4 rfl _ _ _) rfl ?_
                  exact RefLinkPost.bad HZ rfl b3
                | true =>
                  have HZ : Hid (lkE (bl s) = 0) := by show _ = _; rw [HY.out, hp]; rfl
                  clear HY hp
                  go_wp2_with fail
                  go_quiet (fail)
                  go_wp2_with fail
                  refine bodyPost_ret (results_tmp4 rfl _ _ _) rfl ?_
                  exact ⟨s.extract 0 k, s.extract (k + 3) q, s.extract (q + 1) s.size, by rw [HZ.out]; rfl, fun _ => ⟨EH.out, EP.out⟩, by rw [ByteArray.size_extract]; omega, b3.trans ((below_drewN _ _ _).mono b3.size)⟩
            · have b1 : ((s[q].toNat : Int) != 47) = true := by
                rw [bne_iff_ne]; intro h; exact hc (UInt8.toNat_inj.1 (by show _ = 47; omega))
              have H2 : Hid ((47 : UInt8) ∉ ((bl s).drop (k + 3)).take (q + 1 - (k + 3))) := by
                show ¬ _
                rw [show q + 1 - (k + 3) = (q - (k + 3)) + 1 by omega, List.take_add_one, List.mem_append]
                rintro (h | h)
                · exact HQ.out h
                · rw [List.getElem?_drop, show k + 3 + (q - (k + 3)) = q by omega, List.getElem?_eq_getElem (by rw [bl_length]; exact hqs)] at h
                  simp only [Option.toList_some, List.mem_singleton] at h
                  exact hc h.symm
              clear HQ hc
              go_wp2_with fail
              go_roundw
              case rel => exact ⟨trivial, q + 1, by omega, by omega, by go_num, H2⟩
              case measure => simp [intOf]; omega
          · have hqq : q = s.size := by omega
            have b2 : ((q : Int) == (s.size : Int)) = true := by rw [beq_iff_eq]; omega
            have HX : Hid (lkE (bl s) = 0 + 1) := by
              show _ = _
              have hn : (47 : UInt8) ∉ lkR (bl s) := by
                rw [G3.out]
                have := HQ.out
                rwa [List.take_of_length_le (by rw [List.length_drop, bl_length]; omega)] at this
              unfold lkE
              rw [lk_noslash hn]; simp
            clear HQ
            go_wp2_with fail
            refine bodyPost_ret (results_tmp4 rfl _ _ _) rfl ?_
            exact RefLinkPost.bad HX rfl (Below.refl _ _)
    · have HX : Hid (lkE (bl s) = 0 + 1) := by
        show _ = _
        unfold lkE
        rw [lk_miss (l := bl s) (by rw [bl_length, show s.size = k by omega]; exact HN.out)]; rfl
      have he : ((k : Int) == (s.size : Int)) = true := by rw [beq_iff_eq]; omega
      clear HN
      go_wp2_with fail
      refine bodyPost_ret (results_tmp4 rfl _ _ _) rfl ?_
      exact RefLinkPost.bad HX rfl (Below.refl _ _)

set_option maxRecDepth 100000 in
theorem refLinkError_any (s : ByteArray) (w : World) (hs : s.size ≤ 100000) : Calls Tryz.prog 22 #[.string s] w fun e w' => e = .returned (.int .i64 (linkE (bl s))) ∧ Below w.heap.size w w' := by
  have C := Lib.hid (refLinkParts_any s w hs)
  go_enter Tryz.func22, Tryz.ntmps22
  go_wp2_with fail
  refine C.out.mono ?_
  clear C
  rintro e w1 ⟨k, h, p, rfl, HP, hp, hb⟩
  obtain ⟨c, hc⟩ : ∃ c, lkE (bl s) = c := ⟨_, rfl⟩
  rw [hc]
  cases c with
  | succ c =>
    have HX : Hid (linkE (bl s) = c + 1) := by show _ = _; unfold linkE; rw [if_neg (by omega), hc]
    have hpos : (0 : Int) < ((c + 1 : Nat) : Int) := by omega
    clear hc HP
    generalize hn : ((c + 1 : Nat) : Int) = n at hpos
    have HN := Lib.hid hn
    clear hn
    go_wp2_with fail
    go_ret
    exact ⟨by rw [HX.out, HN.out]; rfl, hb⟩
  | zero =>
    have HX : Hid (linkE (bl s) = partsE (bl p)) := by show _ = _; unfold linkE; rw [if_pos hc, (HP.out hc).2]
    rw [show ((0 : Nat) : Int) = 0 from rfl]
    clear hc HP
    have C := Lib.hid (refPathError_any p w1 (by omega))
    go_wp2_with fail
    refine C.out.mono ?_
    clear C
    rintro e w2 ⟨rfl, hb2⟩
    go_wp2_with fail
    go_ret
    exact ⟨by rw [HX.out]; rfl, hb.trans (hb2.mono hb.size)⟩

theorem trim_slash (p : ByteArray) (h : 0 < p.size) (hc : p[p.size - 1] = 47) : Lib.trimSuffix (bl p) [47] = bl (p.extract 0 (p.size - 1)) := by
  have e : (bl p).getLast? = some 47 := by
    rw [List.getLast?_eq_getElem?, bl_length, List.getElem?_eq_getElem (by rw [bl_length]; omega)]
    exact congrArg some hc
  rw [trim_last, if_pos e, List.dropLast_eq_take, bl_length, blExtract]; simp
theorem trim_other (p : ByteArray) (h : 0 < p.size) (hc : ¬ p[p.size - 1] = 47) : Lib.trimSuffix (bl p) [47] = bl p := by
  have e : ¬ (bl p).getLast? = some 47 := by
    rw [List.getLast?_eq_getElem?, bl_length, List.getElem?_eq_getElem (by rw [bl_length]; omega)]
    intro h2; exact hc (Option.some.inj h2)
  rw [trim_last, if_neg e]

/-- The end of the reference's BeginError: what is left of the path. -/
theorem begin_zero {s d : ByteArray} (h0 : lkE (bl s) = 0) (hd : Lib.trimSuffix (lkP (bl s)) [47] = bl d) (he : d.toList.isEmpty = true) : beginE (bl s) = 0 := by
  unfold beginE
  rw [if_pos h0, hd, if_pos]
  rw [toList_bl] at he
  exact List.isEmpty_iff.1 he
theorem begin_path {s d : ByteArray} (h0 : lkE (bl s) = 0) (hd : Lib.trimSuffix (lkP (bl s)) [47] = bl d) (he : d.toList.isEmpty = false) : beginE (bl s) = partsE (bl d) := by
  unfold beginE
  rw [if_pos h0, hd, if_neg]
  rw [toList_bl] at he
  intro h; rw [h] at he; cases he
end Go.Proofs.YtpafddeakanopaaGreatDoor
