/- chandlerylaw3.TapeCuts: the walk. -/
import Derived.Test.YtpafddeakanopaaDoorTaped
import Derived.Lib.OwnKind
namespace Go.Proofs.YtpafddeakanopaaDoor
open Go Go.RowKit

/-- Texts that came in. -/
def RowA (w : World) (v : Value) (l : List ByteArray) : Prop :=
  ∃ ao cap, v = .slice ao l.length cap ∧ l.length ≤ cap ∧ cap ≤ maxLen ∧ (∀ i, i < l.length → ∃ b off, ao = some ⟨b, off, none⟩ ∧ b < w.heap.size ∧ ∀ k, (hk : k < l.length) → w.cell? ⟨b, off + k, none⟩ = some (.string l[k]))

/-- The tape between two appends: what is done; power or none. -/
def TapeSt (acc : List (List UInt8)) (bs : List UInt8) (off : Bool) (c : Int) : Prop :=
  (off = false ∧ bs = recsL acc ∧ 0 ≤ c) ∨ (off = true ∧ ∃ p, bs = recsL acc ++ p ∧ oneL p = none)
theorem tapeSt_step {acc : List (List UInt8)} {bs : List UInt8} {off : Bool} {c : Int} (h : TapeSt acc bs off c) (s : List UInt8) {bs' : List UInt8} {off' : Bool} {c' : Int} {ok : Bool} (hw : WroteL bs off c (recL s) = (bs', off', c', ok)) (hc : -1 ≤ c ∧ c ≤ 9223372036854775807) :
    TapeSt (if ok = true then acc ++ [s] else acc) bs' off' c' ∧ bs'.length ≤ bs.length + (recL s).length ∧ -1 ≤ c' ∧ c' ≤ 9223372036854775807 := by
  unfold WroteL at hw
  rcases h with ⟨rfl, rfl, h0⟩ | ⟨rfl, p, rfl, hp⟩
  · rw [if_neg (by simp)] at hw
    split at hw
    · rename_i hk
      simp only [Prod.mk.injEq] at hw
      obtain ⟨rfl, rfl, rfl, rfl⟩ := hw
      exact ⟨.inr ⟨rfl, _, rfl, oneL_short s c.toNat (by omega)⟩, by rw [List.length_append, List.length_take]; omega, hc.1, hc.2⟩
    · rename_i hk
      simp only [Prod.mk.injEq] at hw
      obtain ⟨rfl, rfl, rfl, rfl⟩ := hw
      refine ⟨.inl ⟨rfl, ?_, by omega⟩, by rw [List.length_append]; omega, by omega, by omega⟩
      rw [if_pos rfl, recsL_snoc]
  · rw [if_pos rfl] at hw
    simp only [Prod.mk.injEq] at hw
    obtain ⟨rfl, rfl, rfl, rfl⟩ := hw
    exact ⟨.inr ⟨rfl, p, rfl, hp⟩, by omega, hc.1, hc.2⟩
theorem tapeSt_tape {acc : List (List UInt8)} {bs : List UInt8} {off : Bool} {c : Int} (h : TapeSt acc bs off c) (ha : ∀ s ∈ acc, s.length ≤ 20000) : tapeL bs = acc := by
  rcases h with ⟨_, rfl, _⟩ | ⟨_, p, rfl, hp⟩
  · have := tapeL_recs acc [] ha oneL_nil
    rwa [List.append_nil] at this
  · exact tapeL_recs acc p ha hp
theorem recL_small (s : List UInt8) (h : s.length ≤ 200) : (recL s).length ≤ 212 := by
  rw [recL_len]; have := dec_nine s.length (by omega); omega
theorem recsL_small : ∀ (l : List (List UInt8)), (∀ s ∈ l, s.length ≤ 200) → (recsL l).length ≤ 212 * l.length
  | [], _ => by simp [recsL]
  | s :: l, h => by
    rw [recsL_cons, List.length_append, List.length_cons]
    have := recL_small s (h s (by simp))
    have := recsL_small l (fun x hx => h x (by simp [hx]))
    omega

set_option maxHeartbeats 4000000 in
set_option maxRecDepth 100000 in
theorem tapeCuts_walk {w : World} (hE : TapeEnv w) (v : Value) (l : List ByteArray) (hv : RowA w v l) (n : Int) (hn : (Lit.int .i64 n).wf = true) :
    Calls Tryd.prog 4 #[v, .int .i64 n] w fun e w' => e = .returned (.bool true) ∧ Below w.heap.size w w' := by
  obtain ⟨i0, hi0, hz0, hz1, hz2⟩ := info_parts Tryd.infoStrT
  have hn1 : -9223372036854775808 ≤ n ∧ n ≤ 9223372036854775807 := by
    have hm : IntKind.i64.min = -9223372036854775808 := by decide
    simpa [Lit.wf, IntKind.bits, IntKind.signed, hm] using hn
  have HE := Lib.hid hE
  have C := Lib.hid (taped_any w hE)
  obtain ⟨ao, cap, rfl, h1, h2, H3⟩ := hv
  have HM := Lib.hid H3
  obtain ⟨_, te, pe, hoff⟩ := hE
  have hg : 1 < w.heap.size := Lib.lt_of_cell hoff
  clear H3 hn
  go_enter Tryd.func4, Tryd.ntmps4
  go_wp2_with fail
  refine C.out.mono ?_
  clear C
  rintro e w1 ⟨rfl, hb1⟩
  by_cases hl30 : l.length ≤ 30
  · by_cases hn0 : 0 ≤ n
    · have C := Lib.hid (newDisk_any ⟨#[]⟩ w1 (by decide))
      go_wp2_with fail
      refine C.out.mono ?_
      clear C
      rintro e w2 ⟨b, rfl, HD2, hb2⟩
      rw [show bl ⟨#[]⟩ = [] from rfl] at HD2
      have hBl : w.heap.size ≤ w1.heap.size := hb1.size
      have hg1 : 1 < w1.heap.size := by omega
      have C := Lib.hid (diskCut_any w1.heap.size b [] (-1) n hn0 w2 HD2)
      go_wp2_with fail
      refine C.out.mono ?_
      clear C
      rintro e w3 ⟨rfl, HD3, HO3⟩
      have hb3 : Below w1.heap.size w1 w3 := hb2.trans HO3.below
      clear HD2 HO3 hb2
      have HF := Lib.hid (fun (W : World) (hW : Below w1.heap.size w1 W) => HE.out.ext (hb1.trans (hW.mono hBl)))
      go_wp2_with fail
      go_loopw [8, 9] (fun dv i wr => ∃ (k : Nat) (acc : List ByteArray) (bs : List UInt8) (off : Bool) (c : Int), k ≤ l.length ∧ i = .int .i64 k ∧ acc.length ≤ k ∧ Hid (∀ s ∈ acc, s.size ≤ 200) ∧ Hid (TapeSt (acc.map bl) bs off c) ∧ bs.length ≤ 212 * k ∧ -1 ≤ c ∧ c ≤ 9223372036854775807 ∧
          Hid (DiskIs wr w1.heap.size b bs off c) ∧ Hid (wr.ownsRow w1.heap.size 9 1 dv acc.length (acc.flatMap encStr)) ∧ Below w1.heap.size w1 wr) (fun _ i _ => l.length - (intOf i).toNat)
      case atStart => exact ⟨0, [], [], false, n, Nat.zero_le _, rfl, Nat.le_refl _, (fun s hs => by cases hs), .inl ⟨rfl, rfl, hn0⟩, Nat.le_refl _, by omega, hn1.2, HD3, World.ownsRow_nil _ _ _ _, hb3⟩
      case round =>
        obtain ⟨k, acc, bs, off, c, hk, rfl, hacc, HA, HS, hbs, hc1, hc2, HD, HO, hb⟩ := hrel
        have hB4 : w1.heap.size ≤ wr.heap.size := hb.size
        by_cases hlt : k < l.length
        · obtain ⟨ab, aoff, rfl, habl, hcell⟩ := HM.out k hlt
          have cl := hcell k hlt
          have hcl := (hb1.trans (hb.mono hBl)).cell (p := ⟨ab, aoff + k, none⟩) habl
          rw [← hcl] at cl
          clear hcell hcl
          generalize hz : l[k] = z at cl
          clear hz
          by_cases hzs : z.size ≤ 200
          · have hzl : (bl z).length = z.size := bl_length z
            have hrs := recL_small (bl z) (by omega)
            have C := Lib.hid (append_any w1.heap.size b bs off c z (.iface te pe) wr HD.out (by omega) (by omega) ⟨hc1, hc2⟩ hB4 (HF.out wr hb).1.2.1 (((hb1.trans (hb.mono hBl)).cell (p := ⟨1, 0, none⟩) hg).trans hoff) hg1)
            obtain ⟨bs', off', c', ok, hW⟩ : ∃ bs' off' c' ok, WroteL bs off c (recL (bl z)) = (bs', off', c', ok) := ⟨_, _, _, _, rfl⟩
            rw [hW] at C
            obtain ⟨S1, S2, S3, S4⟩ := tapeSt_step HS.out (bl z) hW ⟨hc1, hc2⟩
            have HS2 := Lib.hid S1
            clear hW S1 HS HD
            cases ok with
            | true =>
              unfold AppPost at C
              dsimp only [if_true] at C
              go_wp2_with fail
              refine C.out.mono ?_
              clear C
              rintro e w4 ⟨rfl, HD4, HO4⟩
              have hb4 := hb.trans HO4.below
              have HZ4 := Lib.hid (HO4.owns HO.out (by decide) (by decide))
              have HDH := Lib.hid HD4
              have cl4 := ((HO4.below.cell (p := ⟨ab, aoff + k, none⟩) (by show ab < w1.heap.size; omega))).trans cl
              clear HD4 HO4 HO cl
              go_wp2_with (at_builtin; refine wpList_append_own _ rfl _ _ 25 rfl w1.heap.size 9 i0 (.string ⟨#[]⟩) 1 16 Tryd.underlying25 hi0 hz0 hz1 hz2 rfl (by decide) _ _ _ rfl (HZ4.out.alloc _) ⟨w4.heap.size, 0, none⟩ 1 1 (encStr z) rfl rfl ?c1 ?c2 ?c3 ?c4 ?c5 ?_)
              case c1 =>
                intro j u hj
                match j, hj with
                | 0, hj => simp at hj; subst hj; simp [Addr.add]
              case c2 => intro u hu; simp at hu; subst hu; rfl
              case c3 => unfold maxLen; omega
              case c4 => omega
              case c5 => have := hb4.size; simp; omega
              intro v' w5 hown' hgrow _
              have hown2 : Hid (w5.ownsRow w1.heap.size 9 1 v' (acc ++ [z]).length ((acc ++ [z]).flatMap encStr)) := by
                show World.ownsRow _ _ _ _ _ _ _
                simpa using hown'
              have hbb : Below w1.heap.size w1 w5 := (hb4.alloc hb4.size _).grown hgrow (by have := hb4.size; simp; omega) (fun g hg => (HZ4.out.lt g hg).1)
              have HD5 : Hid (DiskIs w5 w1.heap.size b bs' off' c') := by
                obtain ⟨g1, dv, g2, g3⟩ := HDH.out
                have hbw : b < w4.heap.size := (Array.getElem?_eq_some_iff.1 g2).1
                have hal : Below w4.heap.size w4 (w4.alloc (.cells #[.string z] 9)) := (Below.refl _ _).alloc (Nat.le_refl _) _
                have hkind := Lib.ownsRow_kind HZ4.out
                have hne : ∀ (q : Nat) (cs : Array Value) (T : TypeId) (fz : Nat × Nat), w4.heap[q]? = some (.cells cs T fz) → T ≠ 9 → u8.ownBlock ≠ some q := by
                  intro q cs T fz hq hT e
                  obtain ⟨c2, fz2, h3⟩ := hkind q e
                  rw [h3] at hq
                  injection hq with hq
                  injection hq with _ h4 _
                  exact hT h4.symm
                have kept : ∀ (q : Nat) (cs : Array Value) (T : TypeId) (fz : Nat × Nat), w4.heap[q]? = some (.cells cs T fz) → T ≠ 9 → w5.heap[q]? = some (.cells cs T fz) := by
                  intro q cs T fz hq hT
                  have hqw : q < w4.heap.size := (Array.getElem?_eq_some_iff.1 hq).1
                  rw [hgrow.block q (Nat.lt_of_lt_of_le hqw hal.size) (fun e => hne q cs T fz hq hT e.symm), hal.block q hqw]
                  exact hq
                refine ⟨g1, dv, kept _ _ _ _ g2 (by decide), ?_⟩
                rcases g3 with g3 | ⟨q, qc, cur, lo, hi, e1, e2, e3, e4⟩
                · exact .inl g3
                · exact .inr ⟨q, qc, cur, lo, hi, e1, e2, kept _ _ _ _ e3 (by decide), e4⟩
              clear hown' hgrow HZ4 hb4 hb HDH
              go_wp2_with fail
              go_roundw
              case rel =>
                refine ⟨k + 1, acc ++ [z], bs', off', c', by omega, by go_num, by simp; omega, ?_, ?_, by omega, S3, S4, HD5, hown2, hbb⟩
                · intro s hs
                  rcases List.mem_append.1 hs with hs | hs
                  · exact HA.out s hs
                  · rw [List.mem_singleton.1 hs]; exact hzs
                · have := HS2.out
                  show TapeSt _ _ _ _
                  simpa using this
              case measure => simp [intOf]; omega
            | false =>
              unfold AppPost at C
              dsimp only [if_false, Bool.false_eq_true] at C
              go_wp2_with fail
              refine C.out.mono ?_
              clear C
              rintro e w4 ⟨rfl, HD4, HO4⟩
              have hb4 := hb.trans HO4.below
              have HZ4 := Lib.hid (HO4.owns HO.out (by decide) (by decide))
              have HDH := Lib.hid HD4
              clear HD4 HO4 HO cl
              go_wp2_with fail
              go_roundw
              case rel =>
                refine ⟨k + 1, acc, bs', off', c', by omega, by go_num, by omega, HA, ?_, by omega, S3, S4, HDH, HZ4, hb4⟩
                have := HS2.out
                show TapeSt _ _ _ _
                simpa using this
              case measure => simp [intOf]; omega
          · go_wp2_with fail
            go_ret
            exact ⟨rfl, hb1.trans (hb.mono hBl)⟩
        · obtain rfl : k = l.length := by omega
          have hmap : ∀ s ∈ acc.map bl, s.length ≤ 200 := by
            intro s hs
            obtain ⟨x, hx, rfl⟩ := List.mem_map.1 hs
            rw [bl_length]; exact HA.out x hx
          have HT := Lib.hid (tapeSt_tape HS.out (fun s hs => Nat.le_trans (hmap s hs) (by decide)))
          have hrs := recsL_small _ hmap
          rw [List.length_map] at hrs
          have C := Lib.hid (recover_any w1.heap.size b bs off c wr HD.out (by omega) hB4 (fun W hW => (HF.out W (hb.trans hW)).1))
          rw [HT.out] at C
          clear HD HS
          go_wp2_with fail
          refine C.out.mono ?_
          clear C
          rintro e w4 ⟨v4, zs, rfl, HZ, HZM, hzl, HD4, HO4⟩
          have hb4 := hb.trans HO4.below
          have HOD := Lib.hid (HO4.owns HO.out (by decide) (by decide))
          have C := Lib.hid (sameTexts_same (Row.of_owns (fun _ => rfl) HZ.out) (Row.of_owns (fun _ => rfl) HOD.out) HZM.out (by omega))
          have HDH := Lib.hid HD4
          have hdl : ∃ ado adc, u8 = .slice ado acc.length adc := by
            rcases HOD.out.2 with ⟨h, h0⟩ | ⟨g, adc, cur, h, _⟩
            · exact ⟨none, 0, by rw [h, h0]⟩
            · exact ⟨_, _, h⟩
          clear HD4 HO4 HO hb
          go_wp2_with fail
          refine C.out.mono ?_
          clear C
          rintro e w5 ⟨rfl, hb5⟩
          have hB5 : w1.heap.size ≤ w4.heap.size := hb4.size
          have hb51 := hb4.trans (hb5.mono hB5)
          have HD5 := Lib.hid (HDH.out.below hb5)
          clear HDH HZ
          have C := Lib.hid (diskPower_any _ _ _ _ _ w5 HD5.out)
          go_wp2_with fail
          refine C.out.mono ?_
          clear C
          rintro e w6 ⟨rfl, rfl⟩
          have hom : bl ⟨#[111, 110, 101, 32, 109, 111, 114, 101]⟩ = [111, 110, 101, 32, 109, 111, 114, 101] := rfl
          have hro := recL_small [111, 110, 101, 32, 109, 111, 114, 101] (by decide)
          have C := append_any w1.heap.size b _ false (-1) ⟨#[111, 110, 101, 32, 109, 111, 114, 101]⟩ (.iface te pe) w5 HD5.out (by decide) (by rw [hom]; omega) (by decide) hb51.size (HF.out w5 hb51).1.2.1 (((hb1.trans (hb51.mono hBl)).cell (p := ⟨1, 0, none⟩) hg).trans hoff) hg1
          rw [hom] at C
          have hW : WroteL (recsL (acc.map bl)) false (-1) (recL [111, 110, 101, 32, 109, 111, 114, 101]) = (recsL (acc.map bl ++ [[111, 110, 101, 32, 109, 111, 114, 101]]), false, -1, true) := by
            unfold WroteL; rw [recsL_snoc]; simp
          rw [hW] at C
          unfold AppPost at C
          dsimp only [if_true] at C
          have C := Lib.hid C
          clear hW HD5
          go_wp2_with fail
          refine C.out.mono ?_
          clear C
          rintro e w6 ⟨rfl, HD6, HO6⟩
          dsimp only [if_true]
          have hb6 := hb51.trans HO6.below
          have hB6 : w1.heap.size ≤ w6.heap.size := hb6.size
          have hL : (recsL (acc.map bl ++ [[111, 110, 101, 32, 109, 111, 114, 101]])).length ≤ 6600 := by rw [recsL_snoc, List.length_append]; omega
          have htp : tapeL (recsL (acc.map bl ++ [[111, 110, 101, 32, 109, 111, 114, 101]])) = acc.map bl ++ [[111, 110, 101, 32, 109, 111, 114, 101]] := by
            have := tapeL_recs (acc.map bl ++ [[111, 110, 101, 32, 109, 111, 114, 101]]) [] (fun s hs => by
              rcases List.mem_append.1 hs with hs | hs
              · exact Nat.le_trans (hmap s hs) (by decide)
              · rw [List.mem_singleton.1 hs]; decide) oneL_nil
            rwa [List.append_nil] at this
          obtain ⟨L, hLd⟩ : ∃ L, recsL (acc.map bl ++ [[111, 110, 101, 32, 109, 111, 114, 101]]) = L := ⟨_, rfl⟩
          rw [hLd] at hL htp HD6
          have HLD := Lib.hid hLd
          have HTP := Lib.hid htp
          obtain ⟨y, hy⟩ : ∃ y : ByteArray, (⟨L.toArray⟩ : ByteArray) = y := ⟨_, rfl⟩
          have hyb : bl y = L := by rw [← hy, bytesOf]
          have hys : y.size = L.length := by rw [← hyb, bl_length]
          have C := diskBytes_any _ _ _ _ _ w6 HD6
          rw [hy] at C
          have HDH := Lib.hid HD6
          clear hLd htp HD6 HO6
          have C := Lib.hid C
          go_wp2_with fail
          refine C.out.mono ?_
          clear C
          rintro e w7 ⟨rfl, rfl⟩
          have C := Lib.hid (read_any y w6 (by omega) (HF.out w6 hb6).1)
          rw [hyb] at C
          go_wp2_with fail
          refine C.out.mono ?_
          clear C
          rintro e w7 ⟨v7, zs2, n2, rfl, HZ2, HM2, HN2, hn2, hzl2, hb7⟩
          have hz2e : zs2.map bl = acc.map bl ++ [[111, 110, 101, 32, 109, 111, 114, 101]] := HM2.out.trans HTP.out
          have hlen2 : zs2.length = acc.length + 1 := by have := congrArg List.length hz2e; simpa using this
          have hn2L : n2 = L.length := by rw [HN2.out, hz2e, HLD.out]
          have hom2 : zs2[acc.length]'(by omega) = ⟨#[111, 110, 101, 32, 109, 111, 114, 101]⟩ := by
            refine bl_inj ?_
            have : (zs2.map bl)[acc.length]? = (acc.map bl ++ [[111, 110, 101, 32, 109, 111, 114, 101]])[acc.length]? := by rw [hz2e]
            rw [List.getElem?_map, List.getElem?_eq_getElem (by omega)] at this
            have e : bl zs2[acc.length] = [111, 110, 101, 32, 109, 111, 114, 101] := by simpa using this
            exact e
          obtain ⟨ao7, cap7, rfl, p1, p2, P3⟩ := (Row.of_owns (enc := encStr) (fun _ => rfl) HZ2.out).parts
          obtain ⟨b7, off7, rfl, hb7l, hcell7⟩ := P3 acc.length (by omega)
          have cl7 := hcell7 acc.length (by omega)
          rw [hom2] at cl7
          obtain ⟨ado, adc, rfl⟩ := hdl
          rw [hlen2]
          have C := diskBytes_any _ _ _ _ _ w7 (HDH.out.below hb7)
          rw [hy] at C
          have C := Lib.hid C
          clear hom2 hcell7 P3 hz2e HM2 HN2 HZ2 hom hro
          go_wp2_with fail
          refine C.out.mono ?_
          clear C
          rintro e w8 ⟨rfl, rfl⟩
          have hb8 := hb1.trans ((hb6.trans (hb7.mono hB6)).mono hBl)
          have hys2 : y.size = n2 := by omega
          go_wp2_with fail
          go_ret
          refine ⟨?_, hb8⟩
          rfl
    · go_wp2_with fail
      go_ret
      exact ⟨rfl, hb1⟩
  · go_wp2_with fail
    go_ret
    exact ⟨rfl, hb1⟩
end Go.Proofs.YtpafddeakanopaaDoor
