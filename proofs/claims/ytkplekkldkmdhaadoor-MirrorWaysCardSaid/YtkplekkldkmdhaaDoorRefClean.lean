/- The reference's glue, CleanOf, JoinOf, StripOf, IsIn, SameTexts by their contracts. -/
import Derived.Test.YtkplekkldkmdhaaDoorPathMore
import Derived.Test.YtkplekkldkmdhaaDoorRefPaths
namespace Go.Proofs.YtkplekkldkmdhaaDoor
open Go Go.RowKit

theorem glue_step (w : List (List UInt8)) (k : Nat) (h : k < w.length) :
    [47].intercalate (w.take (k + 1)) = (if k = 0 then [] else [47].intercalate (w.take k) ++ [47]) ++ w[k] := by
  have aux : ∀ (l : List (List UInt8)) (x : List UInt8), [47].intercalate (l ++ [x]) = (if l = [] then [] else [47].intercalate l ++ [47]) ++ x := by
    intro l
    induction l with
    | nil => intro x; simp [List.intercalate]
    | cons a l ih =>
      intro x
      rw [if_neg (by simp)]
      cases l with
      | nil => simp [List.intercalate]
      | cons b l =>
        rw [List.cons_append, List.cons_append, join_cons, ← List.cons_append, ih, if_neg (by simp), join_cons]
        simp
  rw [List.take_add_one, List.getElem?_eq_getElem h]
  show [47].intercalate (w.take k ++ [w[k]]) = _
  rw [aux]
  by_cases h0 : k = 0
  · subst h0; simp
  · rw [if_neg h0, if_neg (by intro e; have := congrArg List.length e; rw [List.length_take, List.length_nil] at this; omega)]

set_option maxHeartbeats 400000 in
set_option maxRecDepth 100000 in
theorem glue_any {w : World} {v : Value} {zs : List ByteArray} (hv : Row encStr 1 w v zs) (hn : zs.length ≤ 1000) (hz : ∀ z ∈ zs, z.size ≤ 10000) :
    Calls Tryd.prog 73 #[v] w fun e w' => (∃ x : ByteArray, e = .returned (.string x) ∧ Hid (bl x = [47].intercalate (zs.map bl))) ∧ w = w' := by
  obtain ⟨ao, cap, rfl, h1, h2, H3⟩ := hv.parts
  have HM := Lib.hid H3
  have HS := Lib.hid hz
  clear H3 hv hz
  go_enter Tryd.func73, Tryd.ntmps73
  go_wp2_with fail
  go_loop [3, 4] (fun g i => ∃ (k : Nat) (x : ByteArray), k ≤ zs.length ∧ i = .int .i64 k ∧ g = .string x ∧ x.size ≤ 10001 * k ∧ Hid (bl x = [47].intercalate ((zs.map bl).take k))) (fun _ i => zs.length - (intOf i).toNat)
  case atStart => exact ⟨0, ⟨#[]⟩, Nat.zero_le _, rfl, rfl, Nat.le_refl _, rfl⟩
  case round =>
    obtain ⟨k, x, hk, rfl, rfl, hx, HX⟩ := hrel
    by_cases hlt : k < zs.length
    · obtain ⟨b, off, rfl, hbl, hcell⟩ := HM.out k hlt
      have cl := hcell k hlt
      have sz := HS.out zs[k] (List.getElem_mem hlt)
      clear hcell
      have HG : Hid ([47].intercalate ((zs.map bl).take (k + 1)) = (if k = 0 then [] else bl x ++ [47]) ++ bl zs[k]) := by
        show _ = _
        rw [glue_step _ k (by rw [List.length_map]; exact hlt), HX.out, List.getElem_map]
      generalize zs[k] = z at cl sz HG
      clear HX
      by_cases h0 : k = 0
      · subst h0
        simp only [Nat.add_zero] at cl
        have HG2 : Hid (bl (x ++ z) = [47].intercalate ((zs.map bl).take 1)) := by
          show _ = _
          have e : x.size = 0 := by omega
          have e2 : bl x = [] := List.eq_nil_of_length_eq_zero (by rw [bl_length]; exact e)
          rw [HG.out, if_pos rfl, blAdd, e2]
        have hs : (x ++ z).size = x.size + z.size := by have := congrArg List.length (blAdd x z); rw [List.length_append, bl_length, bl_length, bl_length] at this; exact this
        clear HG
        go_wp2_with fail
        go_round
        case rel => exact ⟨1, _, by omega, by go_num, rfl, by omega, HG2⟩
        case measure => simp [intOf]; omega
      · have HG2 : Hid (bl (x ++ ⟨#[47]⟩ ++ z) = [47].intercalate ((zs.map bl).take (k + 1))) := by
          show _ = _
          rw [HG.out, if_neg h0, blAdd, blAdd]; rfl
        have hs : (x ++ ⟨#[47]⟩ ++ z).size = x.size + 1 + z.size := by
          have e1 := congrArg List.length (blAdd (x ++ ⟨#[47]⟩) z)
          have e2 := congrArg List.length (blAdd x ⟨#[47]⟩)
          rw [List.length_append, bl_length, bl_length, bl_length] at e1 e2
          rw [e1, e2]; rfl
        clear HG
        have hpos : 0 < k := by omega
        go_wp2_with fail
        go_round
        case rel => exact ⟨k + 1, _, by omega, by go_num, rfl, by omega, HG2⟩
        case measure => simp [intOf]; omega
    · obtain rfl : k = zs.length := by omega
      have HX2 : Hid (bl x = [47].intercalate (zs.map bl)) := by show _ = _; rw [HX.out, List.take_of_length_le (by rw [List.length_map]; exact Nat.le_refl _)]
      clear HX
      go_wp2_with fail
      go_ret
      exact ⟨⟨x, rfl, HX2⟩, rfl⟩

/-- What the reference's CleanOf hands back. -/
def RefCleanPost (s : ByteArray) (w : World) (e : Ending) (w' : World) : Prop :=
  (∃ x : ByteArray, e = .returned (.tuple #[.string x, .int .i64 (cleanE (bl s))]) ∧ Hid (bl x = cleanT (bl s))) ∧ Below w.heap.size w w'
theorem RefCleanPost.err {s : ByteArray} {w w' : World} {n : Int} (h : Hid ((cleanE (bl s) : Int) = n)) (h0 : n ≠ 0) (hb : Below w.heap.size w w') : RefCleanPost s w (.returned (.tuple #[.string ⟨#[]⟩, .int .i64 n])) w' :=
  ⟨⟨⟨#[]⟩, by rw [h.out], by show _ = _; unfold cleanT; rw [if_neg (by intro e; have := h.out; rw [e] at this; exact h0 this.symm)]; rfl⟩, hb⟩
theorem RefCleanPost.ok {s x : ByteArray} {w w' : World} (h : Hid (cleanE (bl s) = 0)) (hx : Hid (bl x = [47].intercalate (cleanW [] (cutL 47 (bl s))).2)) (hb : Below w.heap.size w w') : RefCleanPost s w (.returned (.tuple #[.string x, .int .i64 0])) w' :=
  ⟨⟨x, by rw [h.out]; rfl, by show _ = _; unfold cleanT; rw [h.out, if_pos rfl]; exact hx.out⟩, hb⟩

theorem flat_str (l : List ByteArray) : l.flatMap encStr = l.map Value.string := by
  induction l with
  | nil => rfl
  | cons x l ih => rw [List.flatMap_cons, ih]; rfl
theorem drop_map (zs : List ByteArray) (k : Nat) (h : k < zs.length) : (zs.map bl).drop k = bl zs[k] :: (zs.map bl).drop (k + 1) := by
  rw [List.drop_eq_getElem_cons (by rw [List.length_map]; exact h), List.getElem_map]

set_option maxHeartbeats 2000000 in
set_option maxRecDepth 100000 in
theorem refCleanOf_any (s : ByteArray) (w : World) (hs : s.size ≤ 1000) : Calls Tryd.prog 40 #[.string s] w (RefCleanPost s w) := by
  obtain ⟨i0, hi0, hz0, hz1, hz2⟩ := info_parts Tryd.infoS
  have C := Lib.hid (refCut_any s 47 w (by omega))
  by_cases h0 : 0 < s.size ∧ (bl s).head? = some 47
  · obtain ⟨hpos, hh⟩ := h0
    have HX : Hid ((cleanE (bl s) : Int) = 3) := by show _ = _; unfold cleanE; rw [if_pos hh]; rfl
    have ix : ∀ W : World, (Instr.index 9 (.string s) (.int .i64 0)).run Tryd.prog W = .ok (.int .u8 47) W := fun W => by
      have e : s[0] = 47 := by
        have h2 := hh
        rw [List.head?_eq_getElem?, List.getElem?_eq_getElem (by rw [bl_length]; exact hpos)] at h2
        exact Option.some.inj h2
      have := index_nat s 0 0 hpos rfl W
      rw [e] at this; exact this
    clear hh C
    go_enter Tryd.func40, Tryd.ntmps40
    go_wp2_with fail
    go_ret2
    exact RefCleanPost.err HX (by decide) (Below.refl _ _)
  · have HH : Hid ((bl s).head? ≠ some 47) := by
      intro h
      refine h0 ⟨?_, h⟩
      rw [← bl_length]
      cases hb : bl s with
      | nil => rw [hb] at h; cases h
      | cons _ _ => simp
    have hcase : s.size = 0 ∨ (0 < s.size ∧ ∃ x : UInt8, (∀ W : World, (Instr.index 9 (.string s) (.int .i64 0)).run Tryd.prog W = .ok (.int .u8 x.toNat) W) ∧ ((x.toNat : Int) == 47) = false) := by
      by_cases hz : s.size = 0
      · exact .inl hz
      · refine .inr ⟨by omega, s[0]'(by omega), fun W => index_nat s 0 0 (by omega) rfl W, ?_⟩
        rw [beq_eq_false_iff_ne]
        intro h
        refine HH.out ?_
        rw [List.head?_eq_getElem?, List.getElem?_eq_getElem (by rw [bl_length]; omega)]
        have e : (s[0]'(by omega)).toNat = 47 := by omega
        exact congrArg some (UInt8.toNat_inj.1 e)
    clear h0
    go_enter Tryd.func40, Tryd.ntmps40
    rcases hcase with hc | ⟨hpos, x0, ix, hx⟩
    all_goals
      go_wp2_with fail
      refine C.out.mono ?_
      clear C
      rintro e w1 ⟨v, zs, rfl, HR, HZ, hl, hb0⟩
      have HS : Hid (∀ z ∈ zs, z.size ≤ s.size) := fun z hz => by
        have h : bl z ∈ cutL 47 (bl s) := by rw [← HZ.out]; exact List.mem_map.2 ⟨z, hz, rfl⟩
        have := cutL_size 47 (bl s) _ h
        rwa [bl_length, bl_length] at this
      obtain ⟨ao, cap, rfl, h1, h2, H3⟩ := HR.out.parts
      have HM := Lib.hid H3
      clear H3 HR
      go_wp2_with fail
      go_loopw [5, 6, 7, 8] (fun o i _ _ wr => ∃ (k : Nat) (out : List ByteArray), k ≤ zs.length ∧ i = .int .i64 k ∧ out.length ≤ k ∧ wr.ownsRow w1.heap.size 9 1 o out.length (out.map Value.string) ∧ Hid (∀ z ∈ out, z.size ≤ s.size) ∧
        Hid (cleanW [] (zs.map bl) = cleanW (out.map bl) ((zs.map bl).drop k)) ∧ Below w1.heap.size w1 wr) (fun _ i _ _ _ => zs.length - (intOf i).toNat)
      case atStart => exact ⟨0, [], Nat.zero_le _, rfl, Nat.le_refl _, World.ownsRow_nil _ _ _ _, (fun z hz => by cases hz), rfl, Below.refl _ _⟩
      case round =>
        obtain ⟨k, out, hk, rfl, hol, hr, HO, HC, hb⟩ := hrel
        by_cases hlt : k < zs.length
        · obtain ⟨b, off, rfl, hbl, hcell⟩ := HM.out k hlt
          have cl := hcell k hlt
          rw [← hb.cell (p := ⟨b, off + k, none⟩) hbl] at cl
          have sz := HS.out zs[k] (List.getElem_mem hlt)
          have HD := Lib.hid (drop_map zs k hlt)
          clear hcell
          generalize zs[k] = z at cl sz HD
          by_cases q0 : z.toList = []
          · have HC2 : Hid (cleanW [] (zs.map bl) = cleanW (out.map bl) ((zs.map bl).drop (k + 1))) := by
              show _ = _
              rw [HC.out, HD.out, cleanW, if_pos (.inl (by rw [← toList_bl]; exact q0))]
            have g0 : z.toList.isEmpty = true := by rw [q0]; rfl
            clear q0 HC HD
            go_wp2_with fail
            go_roundw
            case rel => exact ⟨k + 1, out, by omega, by go_num, by omega, hr, HO, HC2, hb⟩
            case measure => simp [intOf]; omega
          have g0 : z.toList.isEmpty = false := by
            cases h : z.toList with
            | nil => exact absurd h q0
            | cons _ _ => rfl
          by_cases q1 : z.toList = [46]
          · have HC2 : Hid (cleanW [] (zs.map bl) = cleanW (out.map bl) ((zs.map bl).drop (k + 1))) := by
              show _ = _
              rw [HC.out, HD.out, cleanW, if_pos (.inr (by rw [← toList_bl]; exact q1))]
            have g1 : (z.toList == [46]) = true := by rw [q1]; rfl
            clear q0 q1 HC HD
            go_wp2_with fail
            go_roundw
            case rel => exact ⟨k + 1, out, by omega, by go_num, by omega, hr, HO, HC2, hb⟩
            case measure => simp [intOf]; omega
          have g1 : (z.toList == [46]) = false := beq_eq_false_iff_ne.2 q1
          have n01 : Hid (¬ (bl z = [] ∨ bl z = [46])) := by
            show ¬ _
            rw [← toList_bl]; rintro (h | h); exact q0 h; exact q1 h
          clear q0 q1
          by_cases q2 : z.toList = [46, 46]
          · have g2 : (z.toList == [46, 46]) = true := by rw [q2]; rfl
            have n2 : Hid (bl z = [46, 46]) := by show _ = _; rw [← toList_bl]; exact q2
            clear q2
            obtain ⟨m, hm⟩ : ∃ m, out.length = m := ⟨_, rfl⟩
            rw [hm] at hr
            obtain ⟨a, cap', rfl⟩ := row_form hr
            cases m with
            | zero =>
              have HX : Hid ((cleanE (bl s) : Int) = 10) := by
                show _ = _
                unfold cleanE
                rw [if_neg HH.out, ← HZ.out, HC.out, HD.out, cleanW, if_neg n01.out, if_pos n2.out, if_pos (by rw [List.eq_nil_of_length_eq_zero hm]; rfl)]; rfl
              go_wp2_with fail
              go_ret2
              exact RefCleanPost.err HX (by decide) (hb0.trans (hb.mono hb0.size))
            | succ m =>
              obtain ⟨g, cap2, ha⟩ := ownsRow_succ hr
              obtain ⟨rfl, rfl⟩ : a = some ⟨g, 0, none⟩ ∧ cap' = cap2 := by simpa using ha
              have hz : ((m : Int) + 1 == 0) = false := by rw [beq_eq_false_iff_ne]; omega
              have hcap : m + 1 ≤ cap' := row_cap hr
              have hr2 := row_pop hr
              have hk2 : out.dropLast.length = m := by rw [List.length_dropLast, hm]; rfl
              rw [← List.map_dropLast] at hr2
              have HC2 : Hid (cleanW [] (zs.map bl) = cleanW (out.dropLast.map bl) ((zs.map bl).drop (k + 1))) := by
                show _ = _
                rw [HC.out, HD.out, cleanW, if_neg n01.out, if_pos n2.out, if_neg (by intro e; have := congrArg List.length e; rw [List.length_map, hm] at this; cases this), List.map_dropLast]
              clear HC HD
              go_wp2_with fail
              go_roundw
              case rel => exact ⟨k + 1, out.dropLast, by omega, by go_num, by omega, by rw [hk2]; exact hr2, (fun z hz => HO.out z (List.dropLast_subset _ hz)), HC2, hb⟩
              case measure => simp [intOf]; omega
          · have g2 : (z.toList == [46, 46]) = false := beq_eq_false_iff_ne.2 q2
            have n2 : Hid (¬ bl z = [46, 46]) := by show ¬ _; rw [← toList_bl]; exact q2
            clear q2
            go_wp2_with fail
            refine (refIsPart_any z wr (by omega)).mono ?_
            rintro e w4 ⟨rfl, hb4⟩
            have hb5 := hb.trans (hb4.mono hb.size)
            cases hp : partB (bl z) with
            | false =>
              have HX : Hid ((cleanE (bl s) : Int) = 5) := by
                show _ = _
                unfold cleanE
                rw [if_neg HH.out, ← HZ.out, HC.out, HD.out, cleanW, if_neg n01.out, if_neg n2.out, if_neg (by rw [hp]; decide)]; rfl
              clear hp
              go_wp2_with fail
              go_ret2
              exact RefCleanPost.err HX (by decide) (hb0.trans (hb5.mono hb0.size))
            | true =>
              have HC2 : Hid (cleanW [] (zs.map bl) = cleanW ((out ++ [z]).map bl) ((zs.map bl).drop (k + 1))) := by
                show _ = _
                rw [HC.out, HD.out, cleanW, if_neg n01.out, if_neg n2.out, if_pos hp, List.map_append]; rfl
              have cl4 := (hb5.cell (p := ⟨b, off + k, none⟩) hbl).trans ((hb.cell (p := ⟨b, off + k, none⟩) hbl).symm.trans cl)
              have hr4 := rowExt hr hb4
              obtain ⟨a, cap', rfl⟩ := row_form hr4
              have HZ4 := Lib.hid sz
              clear hp HC HD cl
              have LAST : Hid (∀ (xv : Value) (wx : World), wx.ownsRow w1.heap.size 9 1 xv out.length (out.map Value.string) → Below w1.heap.size w1 wx → wx.cell? ⟨b, off + k, none⟩ = some (.string z)) := fun xv wx _ hbx =>
                (hbx.cell (p := ⟨b, off + k, none⟩) hbl).trans ((hb5.cell (p := ⟨b, off + k, none⟩) hbl).symm.trans cl4)
              rcases id hr4.2 with ⟨h3, h4⟩ | ⟨g, cap2, cur, h3, h4, h5, h6, h7, h8, h9⟩
              · obtain ⟨rfl, _, rfl⟩ : a = none ∧ out.length = 0 ∧ cap' = 0 := by simpa using h3
                obtain rfl : out = [] := List.eq_nil_of_length_eq_zero h4
                simp only [List.length_nil, List.map_nil] at hr4 LAST
                go_wp2_with (at_builtin; refine wpList_append_own _ rfl _ _ 32 rfl w1.heap.size 9 i0 (.string ⟨#[]⟩) 1 16 Tryd.underlying32 hi0 hz0 hz1 hz2 rfl (by decide) (.slice none 0 0) 0 [] rfl (World.ownsRow_nil _ _ _ _) ⟨w4.heap.size, 0, none⟩ 1 1 [.string z] rfl rfl ?c1 ?c2 ?c3 ?c4 ?c5 ?_)
                case c1 =>
                  intro j u hj
                  match j, hj with
                  | 0, hj => simp at hj; subst hj; simp [Addr.add]
                case c2 => intro u hu; simp at hu; subst hu; rfl
                case c3 => rw [maxLen_eq]; omega
                case c4 => omega
                case c5 => have := hb5.size; simp; omega
                intro v' w6 hown' hgrow _
                have hb6 : Below w1.heap.size w1 w6 := (hb5.alloc hb5.size _).grown hgrow (by have := hb5.size; simp; omega) (fun r e => by simp [Value.ownBlock] at e)
                have hr6 : w6.ownsRow w1.heap.size 9 1 v' 1 [.string z] := by simpa using hown'
                clear hown' hgrow
                go_wp2_with fail
                go_roundw
                case rel => exact ⟨k + 1, [z], by omega, by go_num, by simp, hr6, (fun y hy => by obtain rfl := List.mem_singleton.1 hy; exact HZ4.out), HC2, hb6⟩
                case measure => simp [intOf]; omega
              · obtain ⟨rfl, rfl⟩ : a = some ⟨g, 0, none⟩ ∧ cap' = cap2 := by simpa using h3
                clear h3 h4 h5 h6 h7 h8 h9
                go_wp2_with (at_builtin; refine wpList_append_own _ rfl _ _ 32 rfl w1.heap.size 9 i0 (.string ⟨#[]⟩) 1 16 Tryd.underlying32 hi0 hz0 hz1 hz2 rfl (by decide) (.slice none 0 0) 0 [] rfl (World.ownsRow_nil _ _ _ _) ⟨g, 0, none⟩ out.length cap' (out.map Value.string) rfl (by simp) ?c1 ?c2 ?c3 ?c4 ?c5 ?_)
                case c1 => intro j u hj; exact hr4.cells (g := g) rfl j u hj
                case c2 => intro u hu; obtain ⟨y, _, rfl⟩ := List.mem_map.1 hu; rfl
                case c3 => rw [maxLen_eq]; omega
                case c4 => omega
                case c5 => exact hb5.size
                intro v5 w5 hown5 hgrow5 _
                have hb6 : Below w1.heap.size w1 w5 := hb5.grown hgrow5 hb5.size (fun r e => by simp [Value.ownBlock] at e)
                have hr5 : w5.ownsRow w1.heap.size 9 1 v5 out.length (out.map Value.string) := by simpa using hown5
                have cl5 := LAST.out v5 w5 hr5 hb6
                clear hown5 hgrow5 cl4
                go_wp2_with (at_builtin; refine wpList_append_own _ rfl _ _ 32 rfl w1.heap.size 9 i0 (.string ⟨#[]⟩) 1 16 Tryd.underlying32 hi0 hz0 hz1 hz2 rfl (by decide) _ _ _ rfl (hr5.alloc _) ⟨w5.heap.size, 0, none⟩ 1 1 [.string z] rfl rfl ?c1 ?c2 ?c3 ?c4 ?c5 ?_)
                case c1 =>
                  intro j u hj
                  match j, hj with
                  | 0, hj => simp at hj; subst hj; simp [Addr.add]
                case c2 => intro u hu; simp at hu; subst hu; rfl
                case c3 => rw [maxLen_eq]; omega
                case c4 => omega
                case c5 => have := hb6.size; simp; omega
                intro v6 w6 hown6 hgrow6 _
                have hb7 : Below w1.heap.size w1 w6 := (hb6.alloc hb6.size _).grown hgrow6 (by have := hb6.size; simp; omega) (fun r e => (hr5.lt r e).1)
                have hr6 : w6.ownsRow w1.heap.size 9 1 v6 (out ++ [z]).length ((out ++ [z]).map Value.string) := by simpa using hown6
                clear hown6 hgrow6 hr5
                go_wp2_with fail
                go_roundw
                case rel =>
                  refine ⟨k + 1, out ++ [z], by omega, by go_num, by simp; omega, hr6, (fun y hy => ?_), HC2, hb7⟩
                  rcases List.mem_append.1 hy with h | h
                  · exact HO.out y h
                  · obtain rfl := List.mem_singleton.1 h; exact HZ4.out
                case measure => simp [intOf]; omega
        · obtain rfl : k = zs.length := by omega
          obtain ⟨a, cap', rfl⟩ := row_form hr
          have HF : Hid (cleanW [] (cutL 47 (bl s)) = (if 6 < out.length then 8 else 0, out.map bl)) := by
            show _ = _
            rw [← HZ.out, HC.out, List.drop_of_length_le (by rw [List.length_map]; exact Nat.le_refl _), cleanW, List.length_map]
          by_cases h6 : out.length ≤ 6
          · have HX : Hid (cleanE (bl s) = 0) := by show _ = _; unfold cleanE; rw [if_neg HH.out, HF.out, if_neg (by omega)]
            have hrow : Row encStr 1 wr (.slice a out.length cap') out := Row.of_owns (enc := encStr) (base := w1.heap.size) (e := 9) (fun _ => rfl) (by rw [show out.flatMap encStr = out.map Value.string from flat_str out]; exact hr)
            have C := Lib.hid (glue_any hrow (by omega) (fun z hz => by have := HO.out z hz; omega))
            clear hrow
            go_wp2_with fail
            refine C.out.mono ?_
            clear C
            rintro e w5 ⟨⟨x, rfl, HX2⟩, rfl⟩
            go_wp2_with fail
            go_ret2
            exact RefCleanPost.ok HX (by show _ = _; rw [HF.out]; exact HX2.out) (hb0.trans (hb.mono hb0.size))
          · have HX : Hid ((cleanE (bl s) : Int) = 8) := by show _ = _; unfold cleanE; rw [if_neg HH.out, HF.out, if_pos (by omega)]; rfl
            go_wp2_with fail
            all_goals go_ret2
            all_goals exact RefCleanPost.err HX (by decide) (hb0.trans (hb.mono hb0.size))
end Go.Proofs.YtkplekkldkmdhaaDoor
