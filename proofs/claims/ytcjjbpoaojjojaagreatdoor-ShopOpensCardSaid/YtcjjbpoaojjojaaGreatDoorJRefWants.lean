/- The reference's WantError: the contract. The reference's ReadPack: the contract. The reference's OpenWant and RightWant: the contracts. The reference's ReadWant: the contract. The reference's WantText: the contract. -/
import Derived.Test.YtcjjbpoaojjojaaGreatDoorJWantAll
import Derived.Test.YtcjjbpoaojjojaaGreatDoorJRefLinkUp
import Derived.Test.YtcjjbpoaojjojaaGreatDoorJSummed
import Derived.Test.YtcjjbpoaojjojaaGreatDoorJPackedUpEtc
import Derived.Test.YtcjjbpoaojjojaaGreatDoorJFilesEtc
import Derived.Test.YtcjjbpoaojjojaaGreatDoorJRefTree
import Derived.Test.YtcjjbpoaojjojaaGreatDoorJRowedEtc
import Derived.Test.YtcjjbpoaojjojaaGreatDoorJRefTreeUp
import Derived.Test.YtcjjbpoaojjojaaGreatDoorJPressings
import Derived.Test.YtcjjbpoaojjojaaGreatDoorJRefPacked
import Derived.BigQuiet
import Derived.Test.YtcjjbpoaojjojaaGreatDoorJPathedEtc
namespace Go.Proofs.YtcjjbpoaojjojaaGreatDoor
open Go Go.RowKit

theorem posN {c : Nat} : (0 : Int) < ((c + 1 : Nat) : Int) := by omega

set_option maxHeartbeats 2000000 in
set_option maxRecDepth 100000 in
theorem refWantError_any (x : WantB) (w : World) (hn : x.name.size ≤ 1000000) (hu : x.url.size ≤ 100000) :
    Calls Tryz.prog 179 #[.agg #[.string x.name, .string x.url, .string x.kind, .int .i64 x.strip, .int .i64 x.sum]] w fun e w' => e = .returned (.int .i64 (wantE x)) ∧ Below w.heap.size w w' := by
  obtain ⟨px, hpx⟩ : ∃ px, w.heap.size = px := ⟨_, rfl⟩
  obtain ⟨wx, hwx⟩ : ∃ wx, w.alloc (.cells #[.string x.name, .string x.url, .string x.kind, .int .i64 x.strip, .int .i64 x.sum] 60) = wx := ⟨_, rfl⟩
  have hbx : Below w.heap.size w wx := by rw [← hwx]; exact (Below.refl _ _).alloc (Nat.le_refl _) _
  have BX := Lib.hid (show WBox wx px x by rw [← hwx, ← hpx]; exact WBox.new w x)
  have HB := Lib.hid hbx
  have HWX := Lib.hid hwx
  have HPX := Lib.hid hpx
  have K1 := Lib.hid (@wantE_name x)
  have K2 := Lib.hid (fun c => @wantE_url x c)
  have K3 := Lib.hid (@wantE_from x)
  obtain ⟨c0, _, _, _, _⟩ := BX.out.cells
  clear hpx hwx hbx
  go_enter Tryz.func179, Tryz.ntmps179
  go_upto_region 1 with fail
  rw [HWX.out, HPX.out]
  go_wp2_with fail
  refine (refIsPart_any x.name wx (by omega)).mono ?_
  rintro e w1 ⟨rfl, hb1⟩
  have B1 := Lib.hid (HB.out.trans (hb1.mono HB.out.size))
  have BX1 := Lib.hid (BX.out.ext hb1)
  clear hb1 c0
  cases hp : partB (bl x.name) with
  | false =>
    have HX := Lib.hid (K1.out hp)
    clear hp
    go_wp2_with fail
    go_ret
    exact ⟨by rw [HX.out]; rfl, B1.out⟩
  | true =>
    obtain ⟨_, c1, _, _, _⟩ := BX1.out.cells
    have HP := Lib.hid hp
    clear hp
    go_wp2_with fail
    refine (refLinkError_any x.url w1 hu).mono ?_
    rintro e w2 ⟨rfl, hb2⟩
    have B2 := Lib.hid (B1.out.trans (hb2.mono B1.out.size))
    have BX2 := Lib.hid (BX1.out.ext hb2)
    clear hb2 c1
    obtain ⟨ln, hl⟩ : ∃ ln, linkE (bl x.url) = ln := ⟨_, rfl⟩
    rw [hl]
    cases ln with
    | succ c =>
      have HX := Lib.hid (K2.out c HP.out hl)
      clear hl
      have hpos := @posN c
      generalize hnn : ((c + 1 : Nat) : Int) = n at hpos
      have HN := Lib.hid hnn
      clear hnn
      go_wp2_with fail
      go_ret
      exact ⟨by rw [HX.out, HN.out]; rfl, B2.out⟩
    | zero =>
      have HX := Lib.hid (K3.out HP.out hl)
      rw [show ((0 : Nat) : Int) = 0 from rfl]
      obtain ⟨_, _, c2, _, _⟩ := BX2.out.cells
      have RW : Row encStr 1 (w2.alloc (.cells #[.string ⟨#[112, 108, 97, 105, 110]⟩, .string ⟨#[112, 97, 99, 107]⟩, .string ⟨#[112, 114, 101, 115, 115]⟩] 9)) (.slice (some ⟨w2.heap.size, 0, none⟩) 3 3) wkindsB :=
        Row.block1 Value.string w2 wkindsB 9 (by rw [maxLen_eq]; decide) w2.heap.size 3 rfl rfl
      have HK := Lib.hid (refInTexts_any x.kind RW (by decide))
      clear hl K1 K2 K3 RW
      go_wp2_with fail
      refine HK.out.mono ?_
      clear HK
      rintro e w3 ⟨rfl, hb3⟩
      have b3 : Below w2.heap.size w2 w3 := ((Below.refl _ w2).alloc (Nat.le_refl _) _).trans (hb3.mono (by simp))
      have B3 := Lib.hid (B2.out.trans (b3.mono B2.out.size))
      have BX3 := Lib.hid (BX2.out.ext b3)
      obtain ⟨_, _, d2, d3, d4⟩ := BX3.out.cells
      clear hb3 b3 c2
      rw [show wkindsB.map bl = wkinds from rfl]
      cases hk : wkinds.contains (bl x.kind) with
      | false =>
        have HY : Hid (wantE x = 4) := by show _ = _; rw [HX.out, if_pos hk]
        clear hk
        go_wp2_with fail
        go_ret
        exact ⟨by rw [HY.out]; rfl, B3.out⟩
      | true =>
        have HY := HX.out
        rw [if_neg (by rw [hk]; simp)] at HY
        have HX2 := Lib.hid HY
        clear hk HY HX
        by_cases h0 : x.strip < 0
        · have HZ : Hid (wantE x = 2) := by show _ = _; rw [HX2.out, if_pos (.inl h0)]
          go_wp2_with fail
          go_ret
          exact ⟨by rw [HZ.out]; rfl, B3.out⟩
        · by_cases h6 : 6 < x.strip
          · have HZ : Hid (wantE x = 2) := by show _ = _; rw [HX2.out, if_pos (.inr h6)]
            go_wp2_with fail
            go_ret
            exact ⟨by rw [HZ.out]; rfl, B3.out⟩
          · have HY := HX2.out
            rw [if_neg (by omega)] at HY
            have HX3 := Lib.hid HY
            clear HY HX2
            have q := kind_eqb x.kind
            by_cases hkp : bl x.kind = kPlain
            · rw [decide_eq_true hkp] at q
              by_cases hs0 : x.strip = 0
              · have HY : Hid (wantE x = if rightB x.sum = false then 2 else 0) := by show _ = _; rw [HX3.out, if_neg (fun e => e.2 hs0)]
                have q0 : (x.strip == 0) = true := by rw [hs0]; rfl
                clear hkp hs0 HX3
                go_wp2_with fail
                refine (isSum_any _ _).mono ?_
                rintro e w4 ⟨rfl, rfl⟩
                cases hr : rightB x.sum with
                | false =>
                  have HZ : Hid (wantE x = 2) := by show _ = _; rw [HY.out, if_pos hr]
                  clear hr
                  go_wp2_with fail
                  go_ret
                  exact ⟨by rw [HZ.out]; rfl, B3.out⟩
                | true =>
                  have HZ : Hid (wantE x = 0) := by show _ = _; rw [HY.out, if_neg (by rw [hr]; simp)]
                  clear hr
                  go_wp2_with fail
                  go_ret
                  exact ⟨by rw [HZ.out]; rfl, B3.out⟩
              · have HZ : Hid (wantE x = 3) := by show _ = _; rw [HX3.out, if_pos ⟨hkp, hs0⟩]
                have q0 : (x.strip == 0) = false := beq_eq_false_iff_ne.2 hs0
                clear hkp hs0 HX3
                go_wp2_with fail
                go_ret
                exact ⟨by rw [HZ.out]; rfl, B3.out⟩
            · rw [decide_eq_false hkp] at q
              have HY : Hid (wantE x = if rightB x.sum = false then 2 else 0) := by show _ = _; rw [HX3.out, if_neg (fun e => hkp e.1)]
              clear hkp HX3
              go_wp2_with fail
              refine (isSum_any _ _).mono ?_
              rintro e w4 ⟨rfl, rfl⟩
              cases hr : rightB x.sum with
              | false =>
                have HZ : Hid (wantE x = 2) := by show _ = _; rw [HY.out, if_pos hr]
                clear hr
                go_wp2_with fail
                go_ret
                exact ⟨by rw [HZ.out]; rfl, B3.out⟩
              | true =>
                have HZ : Hid (wantE x = 0) := by show _ = _; rw [HY.out, if_neg (by rw [hr]; simp)]
                clear hr
                go_wp2_with fail
                go_ret
                exact ⟨by rw [HZ.out]; rfl, B3.out⟩
end Go.Proofs.YtcjjbpoaojjojaaGreatDoor

namespace Go.Proofs.YtcjjbpoaojjojaaGreatDoor
open Go Go.RowKit

/-- No end of a line from k on to q. -/
def NoLine (s : ByteArray) (k q : Nat) : Prop := (10 : UInt8) ∉ ((bl s).drop k).take (q - k)
theorem NoLine.next {s : ByteArray} {k q : Nat} (h : NoLine s k q) (hk : k ≤ q) (hq : q < s.size) (hc : s[q] ≠ 10) : NoLine s k (q + 1) := by
  unfold NoLine at h ⊢
  have hql : q - k < ((bl s).drop k).length := by rw [List.length_drop, bl_length]; omega
  rw [show q + 1 - k = (q - k) + 1 by omega, List.take_add_one, List.getElem?_eq_getElem hql]
  intro hm
  rcases List.mem_append.1 hm with hm | hm
  · exact h hm
  · simp only [Option.toList_some, List.mem_singleton] at hm
    rw [List.getElem_drop] at hm
    have : (bl s)[k + (q - k)]'(by rw [bl_length]; omega) = s[q] := by
      have e : k + (q - k) = q := by omega
      simp only [e]
      rfl
    rw [this] at hm
    exact hc hm.symm
theorem line_miss {s : ByteArray} {k : Nat} (h : NoLine s k s.size) : pieceL ((bl s).drop k) = none := by
  have : (10 : UInt8) ∉ (bl s).drop k := by
    unfold NoLine at h
    rwa [List.take_of_length_le (by rw [List.length_drop, bl_length]; omega)] at h
  exact piece_no1 (cut_miss this)
theorem cut_line {s : ByteArray} {k q : Nat} (h : NoLine s k q) (hk : k ≤ q) (hq : q < s.size) (hc : s[q] = 10) : Lib.cut ((bl s).drop k) [10] = (bl (s.extract k q), (bl s).drop (q + 1), true) := by
  have e : (bl s).drop k = bl (s.extract k q) ++ 10 :: (bl s).drop (q + 1) := by
    rw [bl_extract]
    have h1 : (bl s).drop k = ((bl s).drop k).take (q - k) ++ ((bl s).drop k).drop (q - k) := (List.take_append_drop _ _).symm
    rw [List.drop_drop, show k + (q - k) = q by omega, drop_cons s q hq, hc] at h1
    exact h1
  rw [e]
  refine cut_hit ?_
  rw [bl_extract]
  exact h
theorem drop_ne {s : ByteArray} {k : Nat} (h : k < s.size) : (bl s).drop k ≠ [] := by
  intro e
  have := congrArg List.length e
  rw [List.length_drop, bl_length] at this
  simp at this
  omega
theorem drop_at (s : ByteArray) (q n : Nat) : ((bl s).drop q)[n]? = (bl s)[q + n]? := by rw [List.getElem?_drop]
/-- A file, in a new row of its own, behind a row that the call owns. -/
theorem file_ready2 {w : World} {B : Nat} {v : Value} {l : List FileB} (h : FOwn w B v l) (f : FileB) (hB : B ≤ w.heap.size) :
    World.ownsRow (w.alloc (.cells #[.string f.path, .bool f.run, .string f.text] 149)) B 149 3 v l.length (l.flatMap encFile) ∧
      (∀ j u, (encFile f)[j]? = some u → (w.alloc (.cells #[.string f.path, .bool f.run, .string f.text] 149)).cell? ((⟨w.heap.size, 0, none⟩ : Addr).add j) = some u) ∧ (∀ u ∈ encFile f, u.oneCell' = true) ∧ B ≤ (w.alloc (.cells #[.string f.path, .bool f.run, .string f.text] 149)).heap.size := by
  refine ⟨World.ownsRow.alloc h _, fun j u hj => ?_, fun u hu => ?_, by simp; omega⟩
  · match j, hj with
    | 0, hj => simp at hj; subst hj; simp [Addr.add]
    | 1, hj => simp at hj; subst hj; simp [Addr.add]
    | 2, hj => simp at hj; subst hj; simp [Addr.add]
  · simp at hu; rcases hu with rfl | rfl | rfl <;> rfl
theorem own_snoc {w : World} {B : Nat} {v : Value} {acc : List FileB} {f : FileB} (h : w.ownsRow B 149 3 v (acc.length + 1) (acc.flatMap encFile ++ encFile f)) : FOwn w B v (acc ++ [f]) := by
  show World.ownsRow _ _ _ _ _ _ _
  simpa using h
/-- What it hands back is the call's own. -/
def RReadOwn (s : ByteArray) (w : World) (e : Ending) (w' : World) : Prop :=
  (∃ v : Value, e = .returned (.tuple #[v, .agg (erA (readEr (bl s)))]) ∧ Hid (FOwn w' w.heap.size v (readT (bl s)))) ∧ Below w.heap.size w w'
theorem RReadOwn.non {s : ByteArray} {w w' : World} {er : Er} (h : readEr (bl s) = er) (h2 : readT (bl s) = []) (hb : Below w.heap.size w w') : RReadOwn s w (.returned (.tuple #[.slice none 0 0, .agg (erA er)])) w' :=
  ⟨⟨_, by rw [h], by show FOwn _ _ _ _; rw [h2]; exact FOwn.nil _ _⟩, hb⟩
theorem RReadOwn.bad {s : ByteArray} {w w' : World} {acc : List FileB} (h20 : ¬ 20000 < (bl s).length) (ha : allL (bl s) = (acc, false)) (hb : Below w.heap.size w w') : RReadOwn s w (.returned (.tuple #[.slice none 0 0, .agg #[.int .i64 1, .int .i64 acc.length]])) w' :=
  RReadOwn.non (readEr_bad h20 ha).1 (readEr_bad h20 ha).2 hb

set_option maxHeartbeats 4000000 in
set_option maxRecDepth 100000 in
theorem refReadPack_own (s : ByteArray) (w : World) (hs : s.size ≤ 1000000) :
    Calls Tryz.prog 104 #[.string s] w (RReadOwn s w) := by
  obtain ⟨i0, hi0, hz0, hz1, hz2⟩ := info_parts Tryz.infoFile
  obtain ⟨g, hg⟩ : ∃ g, w.heap.size = g := ⟨_, rfl⟩
  obtain ⟨wg, hwg⟩ : ∃ wg, w.alloc (.cells #[.int .i64 0, .int .i64 0] 38) = wg := ⟨_, rfl⟩
  have hal : Below w.heap.size w wg := by rw [← hwg]; exact (Below.refl _ _).alloc (Nat.le_refl _) _
  have hA : wg.heap[g]? = some (.cells #[.int .i64 0, .int .i64 0] 38 (0, 0)) := by rw [← hwg, ← hg]; exact heap_alloc_new _ _
  have HGB := Lib.hid hA
  have hgl : g < wg.heap.size := (Array.getElem?_eq_some_iff.1 hA).1
  obtain ⟨B, hB⟩ : ∃ B, wg.heap.size = B := ⟨_, rfl⟩
  have hBw : B ≤ wg.heap.size := Nat.le_of_eq hB.symm
  have hwB : w.heap.size ≤ B := by rw [← hB]; exact hal.size
  have hgB : g < B := by rw [← hB]; exact hgl
  have hgw : w.heap.size ≤ g := Nat.le_of_eq hg
  have HBW := Lib.hid hal
  have HWA := Lib.hid hwg
  have HPA := Lib.hid hg
  have hsl : (bl s).length = s.size := bl_length s
  clear hal hA hB hwg hg hgl
  go_enter Tryz.func104, Tryz.ntmps104
  by_cases h20 : 20000 < s.size
  · have HX := Lib.hid (readEr_big (s := bl s) (by omega))
    have C := Lib.hid (refBare_any 2 wg)
    go_wp2_with fail
    rw [HWA.out, HPA.out]
    refine C.out.mono ?_
    clear C
    rintro e w1 ⟨rfl, hbx⟩
    have hb1 : Below B wg w1 := hbx.mono hBw
    have hg0 : w1.heap[g]? = some (.cells #[.int .i64 0, .int .i64 0] 38 (0, 0)) := (hb1.block g hgB).trans HGB.out
    have f0 : w1.frozen? ⟨g, 0, none⟩ = false := Lib.frozen_of_heap hg0 0
    have f1 : w1.frozen? ⟨g, 1, none⟩ = false := Lib.frozen_of_heap hg0 1
    have e0 : w1.cell? ⟨g, 0, none⟩ = some (.int .i64 0) := by rw [Lib.cell_of_heap hg0]; rfl
    have e1 : w1.cell? ⟨g, 1, none⟩ = some (.int .i64 0) := by rw [Lib.cell_of_heap hg0]; rfl
    obtain ⟨s0, s1, s2⟩ := fault_store hg0 (.int .i64 2) (.int .i64 (-1)) hgw
    have S0 := Lib.hid s0
    have S1 := Lib.hid s1
    have S2 := Lib.hid s2
    have HBF := Lib.hid ((HBW.out.trans (hb1.mono hwB)).trans S2.out)
    clear hg0 s0 s1 s2
    go_wp2_with fail
    exact bodyPost_ret (v := .tuple #[.slice none 0 0, .agg #[.int .i64 2, .int .i64 (-1)]]) (by simp [results, Tryz.results104, go_sem, S0.out, S1.out]) rfl (RReadOwn.non HX.out.1 HX.out.2 HBF.out)
  · have HS20 : Hid (¬ 20000 < (bl s).length) := by show ¬ _; rw [hsl]; exact h20
    have hss : s.size ≤ 20000 := by omega
    clear h20
    go_wp2_with fail
    rw [HWA.out, HPA.out]
    go_loopw [4, 5, 6] (fun ov i _ wr => ∃ (k : Nat) (acc : List FileB), k ≤ s.size ∧ i = .int .i64 k ∧ Hid (PStep (bl s) acc ((bl s).drop k)) ∧ Hid (FOwn wr B ov acc) ∧ Below B wg wr) (fun _ i _ _ => s.size - (intOf i).toNat)
    case atStart => exact ⟨0, [], Nat.zero_le _, rfl, PStep.start _, FOwn.nil _ _, Below.refl _ _⟩
    case round =>
      obtain ⟨k, acc, hk, rfl, HP, HO, hb⟩ := hrel
      obtain ⟨oo, oc, rfl⟩ := HO.out.shape
      obtain ⟨hal, hsm, _⟩ := HP.out.small (by omega)
      have HSM := Lib.hid hsm
      clear hsm
      by_cases hks : k < s.size
      · have HNE := Lib.hid (drop_ne hks)
        go_wp2_with fail
        go_loopw [6] (fun j wi => ∃ q : Nat, k ≤ q ∧ q ≤ s.size ∧ j = .int .i64 q ∧ Hid (NoLine s k q) ∧ wi = wr) (fun j _ => s.size - (intOf j).toNat)
        case atStart => exact ⟨k, Nat.le_refl _, hk, rfl, by show (10 : UInt8) ∉ _; simp, rfl⟩
        case round =>
          obtain ⟨q, hkq, hq, rfl, HN, rfl⟩ := hrel
          have sl := slice_nat s k q k q hkq hq rfl rfl
          have hxs : (s.extract k q).size ≤ 1000000 := by simp; omega
          have C := Lib.hid (refCut_any (s.extract k q) 32 wr hxs)
          by_cases hlt : q < s.size
          · have ix : ∀ W : World, (Instr.index 9 (.string s) (.int .i64 (q : Int))).run Tryz.prog W = .ok (.int .u8 s[q].toNat) W := index_nat s q q hlt rfl
            by_cases hc : s[q] = 10
            · have HCUT := Lib.hid (cut_line HN.out hkq hlt hc)
              have hq10 : ((s[q].toNat : Int) == 10) = true := by rw [hc]; rfl
              have hqs : ((q : Int) == (s.size : Int)) = false := by rw [beq_eq_false_iff_ne]; omega
              clear HN hc
              go_wp2_with fail
              refine C.out.mono ?_
              clear C
              rintro e w1 ⟨v, zs, rfl, HR, HZ, hzl, hbx⟩
              have hb1 : Below B wg w1 := hb.trans (hbx.mono (Nat.le_trans hBw hb.size))
              have HO1 := Lib.hid (HO.out.ext hbx)
              obtain ⟨ao, cap, rfl, r1, r2, H3⟩ := HR.out.parts
              clear HR HO hbx sl ix hq10
              by_cases h3 : zs.length = 3
              · obtain ⟨z0, z1, z2, rfl⟩ : ∃ z0 z1 z2, zs = [z0, z1, z2] := by
                  match zs, h3 with
                  | [a, b, c], _ => exact ⟨a, b, c, rfl⟩
                obtain ⟨b, off, rfl, hbl, hcell⟩ := H3 0 (by simp)
                have q0 : w1.cell? ⟨b, off, none⟩ = some (.string z0) := hcell 0 (by simp)
                have q1 : w1.cell? ⟨b, off + 1, none⟩ = some (.string z1) := hcell 1 (by simp)
                have q2 : w1.cell? ⟨b, off + 2, none⟩ = some (.string z2) := hcell 2 (by simp)
                have HZ2 : Hid (cutL 32 (bl (s.extract k q)) = [bl z0, bl z1, bl z2]) := HZ.out.symm
                have hzs2 : z2.size ≤ 281474976710656 := by
                  have h : bl z2 ∈ cutL 32 (bl (s.extract k q)) := by rw [HZ2.out]; simp
                  have := cutL_size 32 (bl (s.extract k q)) _ h
                  rw [bl_length, bl_length] at this
                  omega
                clear H3 hcell HZ h3 hxs
                obtain ⟨X1, hF⟩ : ∃ X1 : Bool, (z1.toList == [102]) = X1 := ⟨_, rfl⟩
                obtain ⟨X, hX⟩ : ∃ X : Bool, (z1.toList == [120]) = X := ⟨_, rfl⟩
                have HM : Hid ((X1 = false ∧ X = false ∧ headL (bl (s.extract k q)) = none) ∨ ((X1 = true ∨ X = true) ∧ (∀ n, numOf (bl z2) 6 = some n → headL (bl (s.extract k q)) = some (bl z0, X, n)))) := by
                  show _ ∨ _
                  have e1 : (bl z1 == [120]) = X := by rw [← hX, Lib.toList_data]; rfl
                  have e0 : (bl z1 == [102]) = X1 := by rw [← hF, Lib.toList_data]; rfl
                  by_cases h : X1 = true ∨ X = true
                  · have hm : bl z1 = [102] ∨ bl z1 = [120] := by
                      rcases h with h | h
                      · rw [h] at e0; exact .inl (beq_iff_eq.1 e0)
                      · rw [h] at e1; exact .inr (beq_iff_eq.1 e1)
                    exact .inr ⟨h, fun n hn => by rw [head_yes HZ2.out hm hn, e1]⟩
                  · have h1 : X1 = false := by cases X1; rfl; exact absurd (Or.inl rfl) h
                    have h2 : X = false := by cases X; rfl; exact absurd (Or.inr rfl) h
                    rw [h1] at e0; rw [h2] at e1
                    exact .inl ⟨h1, h2, head_mode HZ2.out (beq_eq_false_iff_ne.1 e0) (beq_eq_false_iff_ne.1 e1)⟩
                have HNN := Lib.hid (fun h => head_num (a := bl (s.extract k q)) HZ2.out h)
                have C := Lib.hid (numberOf_any z2 6 (by decide) w1 hzs2)
                clear HZ2
                go_wp2_with fail
                refine C.out.mono ?_
                clear C
                rintro e w2 ⟨rfl, rfl⟩
                cases hn : numOf (bl z2) 6 with
                | none =>
                  have HAL := Lib.hid (HP.out.bad (piece_no2 HCUT.out (HNN.out hn)) HNE.out)
                  have hg0 : w1.heap[g]? = some (.cells #[.int .i64 0, .int .i64 0] 38 (0, 0)) := (hb1.block g hgB).trans HGB.out
                  have f0 : w1.frozen? ⟨g, 0, none⟩ = false := Lib.frozen_of_heap hg0 0
                  have f1 : w1.frozen? ⟨g, 1, none⟩ = false := Lib.frozen_of_heap hg0 1
                  have e0 : w1.cell? ⟨g, 0, none⟩ = some (.int .i64 0) := by rw [Lib.cell_of_heap hg0]; rfl
                  have e1 : w1.cell? ⟨g, 1, none⟩ = some (.int .i64 0) := by rw [Lib.cell_of_heap hg0]; rfl
                  obtain ⟨s0, s1, s2⟩ := fault_store hg0 (.int .i64 1) (.int .i64 acc.length) hgw
                  have S0 := Lib.hid s0
                  have S1 := Lib.hid s1
                  have S2 := Lib.hid s2
                  have HBF := Lib.hid ((HBW.out.trans (hb1.mono hwB)).trans S2.out)
                  clear hg0 s0 s1 s2
                  go_wp2_with fail
                  exact bodyPost_ret (v := .tuple #[.slice none 0 0, .agg #[.int .i64 1, .int .i64 acc.length]]) (by simp [results, Tryz.results104, go_sem, S0.out, S1.out]) rfl (RReadOwn.bad HS20.out HAL.out HBF.out)
                | some n =>
                  rw [show numI (some n) = (n : Int) from rfl]
                  have HNM := Lib.hid hn
                  have hn6 : n < 1000000 := num_six hn
                  clear hn HNN
                  by_cases hFX : X1 = false ∧ X = false
                  · obtain ⟨rfl, rfl⟩ := hFX
                    have HAL : Hid (allL (bl s) = (acc, false)) := by
                      rcases HM.out with h | h
                      · exact HP.out.bad (piece_no2 HCUT.out h.2.2) HNE.out
                      · rcases h.1 with h | h <;> cases h
                    have hg0 : w1.heap[g]? = some (.cells #[.int .i64 0, .int .i64 0] 38 (0, 0)) := (hb1.block g hgB).trans HGB.out
                    have f0 : w1.frozen? ⟨g, 0, none⟩ = false := Lib.frozen_of_heap hg0 0
                    have f1 : w1.frozen? ⟨g, 1, none⟩ = false := Lib.frozen_of_heap hg0 1
                    have e0 : w1.cell? ⟨g, 0, none⟩ = some (.int .i64 0) := by rw [Lib.cell_of_heap hg0]; rfl
                    have e1 : w1.cell? ⟨g, 1, none⟩ = some (.int .i64 0) := by rw [Lib.cell_of_heap hg0]; rfl
                    obtain ⟨s0, s1, s2⟩ := fault_store hg0 (.int .i64 1) (.int .i64 acc.length) hgw
                    have S0 := Lib.hid s0
                    have S1 := Lib.hid s1
                    have S2 := Lib.hid s2
                    have HBF := Lib.hid ((HBW.out.trans (hb1.mono hwB)).trans S2.out)
                    clear hg0 s0 s1 s2
                    go_wp2_with fail
                    exact bodyPost_ret (v := .tuple #[.slice none 0 0, .agg #[.int .i64 1, .int .i64 acc.length]]) (by simp [results, Tryz.results104, go_sem, S0.out, S1.out]) rfl (RReadOwn.bad HS20.out HAL.out HBF.out)
                  · have HH : Hid (headL (bl (s.extract k q)) = some (bl z0, X, n)) := by
                      rcases HM.out with h | h
                      · exact absurd ⟨h.1, h.2.1⟩ hFX
                      · exact h.2 n HNM.out
                    have hmm : X1 = true ∨ (X1 = false ∧ X = true) := by
                      cases X1
                      · cases X
                        · exact absurd ⟨rfl, rfl⟩ hFX
                        · exact .inr ⟨rfl, rfl⟩
                      · exact .inl rfl
                    clear HM hFX HNM
                    by_cases h2 : q + 1 + n < s.size
                    · have i1 := index_nat s ((q : Int) + 1 + n) (q + 1 + n) h2 (by omega)
                      have s2 := slice_nat s ((q : Int) + 1) ((q : Int) + 1 + n) (q + 1) (q + 1 + n) (by omega) (by omega) (by omega) (by omega)
                      have HTW := Lib.hid (bl_at s (q + 1 + n) h2)
                      generalize hA : s[q + 1 + n]'h2 = A at i1 HTW
                      clear hA
                      by_cases c1 : A = 10
                      · have q10 : ((A.toNat : Int) != 10) = false := by rw [c1]; rfl
                        have HPC : Hid (pieceL ((bl s).drop k) = some (⟨z0, X, s.extract (q + 1) (q + 1 + n)⟩, (bl s).drop (q + n + 2))) := by
                          show _ = _
                          rw [piece_yes HCUT.out HH.out (by rw [drop_at, HTW.out, c1]), List.drop_drop, show q + 1 + (n + 1) = q + n + 2 by omega]
                          rw [← mkF_bl z0 (s.extract (q + 1) (q + 1 + n)) X, bl_extract, show q + 1 + n - (q + 1) = n by omega]
                        generalize s.extract (q + 1) (q + 1 + n) = t at s2 HPC
                        have HP2 := Lib.hid (HP.out.next HPC.out)
                        obtain ⟨r1', r2', r3', r4'⟩ := file_ready2 (w := w1.drew) (v := .slice oo acc.length oc) (l := acc) (HO1.out.ext (below_drewN _ w1 1)) ⟨z0, X, t⟩ (by have := hb1.size; show B ≤ w1.heap.size; omega)
                        have hm1 : acc.length + 1 ≤ maxLen := by rw [maxLen_eq]; omega
                        have hm2 : (acc.length + 1) * 40 ≤ 140737488355328 := by omega
                        have hwr1 : IntKind.i64.wrap ((q : Int) + 1) = (q : Int) + 1 := IntWalk.i64_in _ (by omega)
                        have hwr2 : IntKind.i64.wrap ((q : Int) + 1 + n) = (q : Int) + 1 + n := IntWalk.i64_in _ (by omega)
                        clear HP HPC HCUT HH HTW c1
                        rcases hmm with rfl | ⟨rfl, rfl⟩
                        all_goals
                          go_wp2_with fail
                          go_region_law (refine step_append_own rfl _ _ 74 rfl B 149 i0 (.agg #[.string ⟨#[]⟩, .bool false, .string ⟨#[]⟩]) 3 40 Tryz.underlying74 hi0 hz0 hz1 hz2 rfl (by decide) (.slice oo acc.length oc) acc.length _ rfl r1' ⟨w1.heap.size, 0, none⟩ 1 1 (encFile ⟨z0, _, t⟩) rfl rfl r2' r3' hm1 hm2 r4' ?_; intro v' w3 hown' hgrow)
                          all_goals
                            have hown2 := Lib.hid (own_snoc hown')
                            have hb3 : Below B wg w3 := ((hb1.alloc (Nat.le_trans hBw hb1.size) _).drew).grown hgrow r4' (fun p hp => (World.ownsRow.lt HO1.out p hp).1)
                            clear hown' hgrow r1' r2' r3' r4' hwr1 hwr2
                            go_wp2_with fail
                            go_roundw
                            case rel => exact ⟨q + n + 2, _, by omega, by go_num, HP2, hown2, hb3⟩
                            case measure => simp [intOf]; omega
                      · have q10 : ((A.toNat : Int) != 10) = true := by
                          rw [bne_iff_ne]; intro h; exact c1 (UInt8.toNat_inj.1 (by have : ((10 : UInt8).toNat : Int) = 10 := rfl; omega))
                        have HAL := Lib.hid (HP.out.bad (piece_no3 HCUT.out HH.out (by rw [drop_at, HTW.out]; intro h; exact c1 (Option.some.inj h))) HNE.out)
                        rcases hmm with rfl | ⟨rfl, rfl⟩
                        all_goals
                          have hg0 : w1.heap[g]? = some (.cells #[.int .i64 0, .int .i64 0] 38 (0, 0)) := (hb1.block g hgB).trans HGB.out
                          have f0 : w1.frozen? ⟨g, 0, none⟩ = false := Lib.frozen_of_heap hg0 0
                          have f1 : w1.frozen? ⟨g, 1, none⟩ = false := Lib.frozen_of_heap hg0 1
                          have e0 : w1.cell? ⟨g, 0, none⟩ = some (.int .i64 0) := by rw [Lib.cell_of_heap hg0]; rfl
                          have e1 : w1.cell? ⟨g, 1, none⟩ = some (.int .i64 0) := by rw [Lib.cell_of_heap hg0]; rfl
                          obtain ⟨s0, s1, s2⟩ := fault_store hg0 (.int .i64 1) (.int .i64 acc.length) hgw
                          have S0 := Lib.hid s0
                          have S1 := Lib.hid s1
                          have S2 := Lib.hid s2
                          have HBF := Lib.hid ((HBW.out.trans (hb1.mono hwB)).trans S2.out)
                          clear hg0 s0 s1 s2
                          go_wp2_with fail
                          exact bodyPost_ret (v := .tuple #[.slice none 0 0, .agg #[.int .i64 1, .int .i64 acc.length]]) (by simp [results, Tryz.results104, go_sem, S0.out, S1.out]) rfl (RReadOwn.bad HS20.out HAL.out HBF.out)
                    · have HAL := Lib.hid (HP.out.bad (piece_no3 HCUT.out HH.out (by rw [drop_at, List.getElem?_eq_none (by rw [bl_length]; omega)]; simp)) HNE.out)
                      rcases hmm with rfl | ⟨rfl, rfl⟩
                      all_goals
                        have hg0 : w1.heap[g]? = some (.cells #[.int .i64 0, .int .i64 0] 38 (0, 0)) := (hb1.block g hgB).trans HGB.out
                        have f0 : w1.frozen? ⟨g, 0, none⟩ = false := Lib.frozen_of_heap hg0 0
                        have f1 : w1.frozen? ⟨g, 1, none⟩ = false := Lib.frozen_of_heap hg0 1
                        have e0 : w1.cell? ⟨g, 0, none⟩ = some (.int .i64 0) := by rw [Lib.cell_of_heap hg0]; rfl
                        have e1 : w1.cell? ⟨g, 1, none⟩ = some (.int .i64 0) := by rw [Lib.cell_of_heap hg0]; rfl
                        obtain ⟨s0, s1, s2⟩ := fault_store hg0 (.int .i64 1) (.int .i64 acc.length) hgw
                        have S0 := Lib.hid s0
                        have S1 := Lib.hid s1
                        have S2 := Lib.hid s2
                        have HBF := Lib.hid ((HBW.out.trans (hb1.mono hwB)).trans S2.out)
                        clear hg0 s0 s1 s2
                        go_wp2_with fail
                        exact bodyPost_ret (v := .tuple #[.slice none 0 0, .agg #[.int .i64 1, .int .i64 acc.length]]) (by simp [results, Tryz.results104, go_sem, S0.out, S1.out]) rfl (RReadOwn.bad HS20.out HAL.out HBF.out)
              · have h3' : ((zs.length : Int) == 3) = false := by rw [beq_eq_false_iff_ne]; omega
                have HAL := Lib.hid (HP.out.bad (piece_no2 HCUT.out (head_len (by
                  have := congrArg List.length HZ.out
                  rw [List.length_map] at this
                  omega))) HNE.out)
                have hg0 : w1.heap[g]? = some (.cells #[.int .i64 0, .int .i64 0] 38 (0, 0)) := (hb1.block g hgB).trans HGB.out
                have f0 : w1.frozen? ⟨g, 0, none⟩ = false := Lib.frozen_of_heap hg0 0
                have f1 : w1.frozen? ⟨g, 1, none⟩ = false := Lib.frozen_of_heap hg0 1
                have e0 : w1.cell? ⟨g, 0, none⟩ = some (.int .i64 0) := by rw [Lib.cell_of_heap hg0]; rfl
                have e1 : w1.cell? ⟨g, 1, none⟩ = some (.int .i64 0) := by rw [Lib.cell_of_heap hg0]; rfl
                obtain ⟨s0, s1, s2⟩ := fault_store hg0 (.int .i64 1) (.int .i64 acc.length) hgw
                have S0 := Lib.hid s0
                have S1 := Lib.hid s1
                have S2 := Lib.hid s2
                have HBF := Lib.hid ((HBW.out.trans (hb1.mono hwB)).trans S2.out)
                clear hg0 s0 s1 s2
                go_wp2_with fail
                exact bodyPost_ret (v := .tuple #[.slice none 0 0, .agg #[.int .i64 1, .int .i64 acc.length]]) (by simp [results, Tryz.results104, go_sem, S0.out, S1.out]) rfl (RReadOwn.bad HS20.out HAL.out HBF.out)
            · have hq10 : ((s[q].toNat : Int) == 10) = false := by
                rw [beq_eq_false_iff_ne]; intro h; exact hc (UInt8.toNat_inj.1 (by have : ((10 : UInt8).toNat : Int) = 10 := rfl; omega))
              have HN2 := Lib.hid (HN.out.next hkq hlt hc)
              clear HN hc C sl
              go_wp2_with fail
              go_roundw
              case rel => exact ⟨q + 1, by omega, by omega, by go_num, HN2, trivial⟩
              case measure => simp [intOf]; omega
          · obtain rfl : q = s.size := by omega
            have HAL := Lib.hid (HP.out.bad (line_miss HN.out) HNE.out)
            clear HN
            go_wp2_with fail
            refine C.out.mono ?_
            clear C
            rintro e w1 ⟨v, zs, rfl, HR, HZ, hzl, hbx⟩
            have hb1 : Below B wg w1 := hb.trans (hbx.mono (Nat.le_trans hBw hb.size))
            obtain ⟨ao, cap, rfl, r1, r2, H3⟩ := HR.out.parts
            clear HR HO hbx sl H3 HZ
            have hg0 : w1.heap[g]? = some (.cells #[.int .i64 0, .int .i64 0] 38 (0, 0)) := (hb1.block g hgB).trans HGB.out
            have f0 : w1.frozen? ⟨g, 0, none⟩ = false := Lib.frozen_of_heap hg0 0
            have f1 : w1.frozen? ⟨g, 1, none⟩ = false := Lib.frozen_of_heap hg0 1
            have e0 : w1.cell? ⟨g, 0, none⟩ = some (.int .i64 0) := by rw [Lib.cell_of_heap hg0]; rfl
            have e1 : w1.cell? ⟨g, 1, none⟩ = some (.int .i64 0) := by rw [Lib.cell_of_heap hg0]; rfl
            obtain ⟨s0, s1, s2⟩ := fault_store hg0 (.int .i64 1) (.int .i64 acc.length) hgw
            have S0 := Lib.hid s0
            have S1 := Lib.hid s1
            have S2 := Lib.hid s2
            have HBF := Lib.hid ((HBW.out.trans (hb1.mono hwB)).trans S2.out)
            clear hg0 s0 s1 s2
            go_wp2_with fail
            exact bodyPost_ret (v := .tuple #[.slice none 0 0, .agg #[.int .i64 1, .int .i64 acc.length]]) (by simp [results, Tryz.results104, go_sem, S0.out, S1.out]) rfl (RReadOwn.bad HS20.out HAL.out HBF.out)
      · obtain rfl : k = s.size := by omega
        have HA : Hid (allL (bl s) = (acc, true)) := by
          have := HP.out
          rw [List.drop_of_length_le (by rw [bl_length]; exact Nat.le_refl _)] at this
          exact this.done
        have HX := Lib.hid (readEr_all HS20.out HA.out)
        have C := Lib.hid (refTreeFault_any _ acc wr HO.out.arg.1 (by omega) HSM.out)
        clear HP HA
        go_wp2_with fail
        refine C.out.mono ?_
        clear C
        rintro e w1 ⟨rfl, hbx⟩
        have hb1 : Below B wg w1 := hb.trans (hbx.mono (Nat.le_trans hBw hb.size))
        have HO1 := Lib.hid (HO.out.ext hbx)
        have hg1 : w1.heap[g]? = some (.cells #[.int .i64 0, .int .i64 0] 38 (0, 0)) := (hb1.block g hgB).trans HGB.out
        obtain ⟨er, her⟩ : ∃ er, treeEr acc = er := ⟨_, rfl⟩
        rw [her] at HX ⊢
        unfold erA
        obtain ⟨c, hc⟩ : ∃ c : Int, (er.code : Int) = c := ⟨_, rfl⟩
        have hc0 : 0 ≤ c := by omega
        obtain ⟨a, ha⟩ : ∃ a : Int, er.at?.getD (-1) = a := ⟨_, rfl⟩
        rw [hc, ha]
        have HEA : Hid (erA er = #[.int .i64 c, .int .i64 a]) := by show _ = _; unfold erA; rw [hc, ha]
        have HTC : Hid ((er.code : Int) = c) := hc
        clear her hc ha hbx HO hb
        obtain ⟨q, hq⟩ : ∃ q, w1.heap.size = q := ⟨_, rfl⟩
        obtain ⟨w2, hw2⟩ : ∃ w2, w1.alloc (.cells #[.int .i64 c, .int .i64 a] 38) = w2 := ⟨_, rfl⟩
        have hal2 : Below w1.heap.size w1 w2 := by rw [← hw2]; exact (Below.refl _ _).alloc (Nat.le_refl _) _
        have hA2 : w2.heap[q]? = some (.cells #[.int .i64 c, .int .i64 a] 38 (0, 0)) := by rw [← hw2, ← hq]; exact heap_alloc_new _ _
        have hg2 : w2.heap[g]? = some (.cells #[.int .i64 0, .int .i64 0] 38 (0, 0)) := (hal2.block g (Array.getElem?_eq_some_iff.1 hg1).1).trans hg1
        have hb2 : Below B wg w2 := hb1.trans (hal2.mono (Nat.le_trans hBw hb1.size))
        have HO2 := Lib.hid (HO1.out.ext hal2)
        have HW2 := Lib.hid hw2
        have HQ := Lib.hid hq
        have d0 : w2.cell? ⟨q, 0, none⟩ = some (.int .i64 c) := by rw [Lib.cell_of_heap hA2]; rfl
        have d1 : w2.cell? ⟨q, 1, none⟩ = some (.int .i64 a) := by rw [Lib.cell_of_heap hA2]; rfl
        clear hw2 hq hal2 hg1 hb1 hA2 HO1 hg2
        have hg0 : w2.heap[g]? = some (.cells #[.int .i64 0, .int .i64 0] 38 (0, 0)) := (hb2.block g hgB).trans HGB.out
        have f0 : w2.frozen? ⟨g, 0, none⟩ = false := Lib.frozen_of_heap hg0 0
        have f1 : w2.frozen? ⟨g, 1, none⟩ = false := Lib.frozen_of_heap hg0 1
        have e0 : w2.cell? ⟨g, 0, none⟩ = some (.int .i64 0) := by rw [Lib.cell_of_heap hg0]; rfl
        have e1 : w2.cell? ⟨g, 1, none⟩ = some (.int .i64 0) := by rw [Lib.cell_of_heap hg0]; rfl
        obtain ⟨s0, s1, s2⟩ := fault_store hg0 (.int .i64 c) (.int .i64 a) hgw
        have S0 := Lib.hid s0
        have S1 := Lib.hid s1
        have S2 := Lib.hid s2
        have HBF := Lib.hid ((HBW.out.trans (hb2.mono hwB)).trans S2.out)
        clear hg0 s0 s1 s2
        have HSO : Hid (FOwn ((w2.setCell ⟨g, 0, none⟩ (.int .i64 c)).setCell ⟨g, 1, none⟩ (.int .i64 a)) B (.slice oo acc.length oc) acc) := ownsRow_setCell_below (ownsRow_setCell_below HO2.out (a := ⟨g, 0, none⟩) hgB (.int .i64 c)) (a := ⟨g, 1, none⟩) hgB (.int .i64 a)
        clear HO2
        rcases Int.lt_or_eq_of_le hc0 with hpos | rfl
        case inr =>
          have HRT : Hid (readT (bl s) = acc) := by show _ = _; rw [HX.out.2, if_pos (by have := HTC.out; omega)]
          go_wp2_with fail
          rw [HW2.out, HQ.out]
          go_region
          all_goals
            go_wp2_with fail
            exact bodyPost_ret (v := .tuple #[.slice oo acc.length oc, .agg #[.int .i64 0, .int .i64 a]]) (by simp [results, Tryz.results104, go_sem, S0.out, S1.out]) rfl ⟨⟨_, by rw [HX.out.1, HEA.out], by show FOwn _ _ _ _; rw [HRT.out]; exact FOwn.ext (FOwn.low HSO.out hwB) (below_drewN _ _ 1)⟩, HBF.out.drew⟩
        case inl =>
          have HRT : Hid (readT (bl s) = []) := by show _ = _; rw [HX.out.2, if_neg (by have := HTC.out; omega)]
          go_wp2_with fail
          rw [HW2.out, HQ.out]
          go_region
          all_goals
            go_wp2_with fail
            exact bodyPost_ret (v := .tuple #[.slice none 0 0, .agg #[.int .i64 c, .int .i64 a]]) (by simp [results, Tryz.results104, go_sem, S0.out, S1.out]) rfl (by rw [← HEA.out]; exact RReadOwn.non HX.out.1 HRT.out HBF.out.drew)
end Go.Proofs.YtcjjbpoaojjojaaGreatDoor

namespace Go.Proofs.YtcjjbpoaojjojaaGreatDoor
open Go Go.RowKit

/-- What the reference's OpenWant and RightWant hand back. -/
def RWOpenPost (r : Nat × List FileB) (w : World) (e : Ending) (w' : World) : Prop :=
  (∃ v, e = .returned (.tuple #[v, .int .i64 r.1]) ∧ Hid (FGot w' w.heap.size r.1 v r.2)) ∧ Below w.heap.size w w'
theorem RWOpenPost.none {r : Nat × List FileB} {w w' : World} {c : Nat} (h : r = (c, [])) (hb : Below w.heap.size w w') : RWOpenPost r w (.returned (.tuple #[.slice none 0 0, .int .i64 c])) w' :=
  ⟨⟨_, by rw [h], by rw [h]; exact FGot.of (FOwn.nil _ _)⟩, hb⟩
theorem RWOpenPost.some {r : Nat × List FileB} {w w' : World} {v : Value} {c : Nat} {l : List FileB} (h : r = (c, l)) (hv : FOwn w' w.heap.size v l) (hb : Below w.heap.size w w') : RWOpenPost r w (.returned (.tuple #[v, .int .i64 c])) w' :=
  ⟨⟨_, by rw [h], by rw [h]; exact FGot.of hv⟩, hb⟩
end Go.Proofs.YtcjjbpoaojjojaaGreatDoor

namespace Go.Proofs.YtcjjbpoaojjojaaGreatDoor
open Go Go.RowKit

/-- What the reference's ReadWant hands back. -/
def RWReadPost (s : ByteArray) (w : World) (e : Ending) (w' : World) : Prop :=
  e = .returned (.tuple #[wV (readW (bl s)).2, .int .i64 (readW (bl s)).1]) ∧ Below w.heap.size w w'
theorem RWReadPost.of {s : ByteArray} {w w' : World} {c : Nat} {y : WantB} (h : readW (bl s) = (c, y)) (hb : Below w.heap.size w w') :
    RWReadPost s w (.returned (.tuple #[.agg #[.string y.name, .string y.url, .string y.kind, .int .i64 y.strip, .int .i64 y.sum], .int .i64 c])) w' := ⟨by rw [h]; rfl, hb⟩

set_option maxHeartbeats 4000000 in
set_option maxRecDepth 100000 in
theorem refReadWant_any (s : ByteArray) (w : World) (hs : s.size ≤ 100000) :
    Calls Tryz.prog 101 #[.string s] w (RWReadPost s w) := by
  obtain ⟨i0, hi0, hz0, hz1, hz2⟩ := info_parts Tryz.infoWant
  obtain ⟨px, hpx⟩ : ∃ px, w.heap.size = px := ⟨_, rfl⟩
  obtain ⟨wx, hwx⟩ : ∃ wx, w.alloc (.cells #[.string ⟨#[]⟩, .string ⟨#[]⟩, .string ⟨#[]⟩, .int .i64 0, .int .i64 0] 60) = wx := ⟨_, rfl⟩
  have hbx : Below w.heap.size w wx := by rw [← hwx]; exact (Below.refl _ _).alloc (Nat.le_refl _) _
  have BX := Lib.hid (show WBox wx px zeroW by rw [← hwx, ← hpx]; exact WBox.new w zeroW)
  have hpw : w.heap.size ≤ px := Nat.le_of_eq hpx
  have HB := Lib.hid hbx
  have HWX := Lib.hid hwx
  have HPX := Lib.hid hpx
  have C := Lib.hid (refCut_any s 32 wx (by omega))
  clear hpx hwx hbx
  go_enter Tryz.func101, Tryz.ntmps101
  go_wp2_with fail
  rw [HWX.out, HPX.out]
  refine C.out.mono ?_
  clear C
  rintro e w1 ⟨v, zs, rfl, HV, HZ, hl, hb1⟩
  have B1 := Lib.hid (HB.out.trans (hb1.mono HB.out.size))
  have BX1 := Lib.hid (BX.out.ext hb1)
  obtain ⟨ao, cap, rfl, h1, h2, H3⟩ := HV.out.parts
  have HM := Lib.hid H3
  clear hb1 H3 HV
  obtain ⟨c0, c1, c2, c3, c4⟩ := BX1.out.cells
  obtain ⟨f0, f1, f2, f3, f4⟩ := BX1.out.froz
  have W2 := Lib.hid ((BX1.out.store zeroW).cells)
  have B2 := Lib.hid (B1.out.trans (below_wPut w1 zeroW hpw))
  by_cases h5 : zs.length = 5
  rotate_left
  · have HX : Hid (readW (bl s) = (1, zeroW)) := readW_none (fiveW_len (by rw [← HZ.out, List.length_map]; exact h5))
    have hne : ((zs.length : Int) == 5) = false := by rw [beq_eq_false_iff_ne]; omega
    clear h5 HZ HM
    go_wp2_with fail
    obtain ⟨s0, s1, s2, s3, s4⟩ := W2.out
    unfold wPut zeroW at s0 s1 s2 s3 s4
    refine bodyPost_ret (v := .tuple #[.agg #[.string ⟨#[]⟩, .string ⟨#[]⟩, .string ⟨#[]⟩, .int .i64 0, .int .i64 0], .int .i64 (1 : Nat)]) ?_ rfl (RWReadPost.of HX.out B2.out)
    simp [results, Tryz.results101, go_sem, s0, s1, s2, s3, s4]
  · obtain ⟨b, off, rfl, hbl, hcell⟩ := HM.out 0 (by omega)
    obtain ⟨z0, z1, z2, z3, z4, rfl⟩ := five_of h5
    have HP : Hid (cutL 32 (bl s) = [bl z0, bl z1, bl z2, bl z3, bl z4]) := HZ.out.symm
    have a0 : w1.cell? ⟨b, off, none⟩ = some (.string z0) := hcell 0 (by simp)
    have a1 : w1.cell? ⟨b, off + 1, none⟩ = some (.string z1) := hcell 1 (by simp)
    have a2 : w1.cell? ⟨b, off + 2, none⟩ = some (.string z2) := hcell 2 (by simp)
    have a3 : w1.cell? ⟨b, off + 3, none⟩ = some (.string z3) := hcell 3 (by simp)
    have a4 : w1.cell? ⟨b, off + 4, none⟩ = some (.string z4) := hcell 4 (by simp)
    have hsz : ∀ z ∈ [z0, z1, z2, z3, z4], z.size ≤ s.size := fun z hz => by
      have h : bl z ∈ cutL 32 (bl s) := by rw [← HZ.out]; exact List.mem_map.2 ⟨z, hz, rfl⟩
      have := cutL_size 32 (bl s) _ h
      rwa [bl_length, bl_length] at this
    have sz0 := hsz z0 (by simp)
    have sz1 := hsz z1 (by simp)
    have sz3 := hsz z3 (by simp)
    have sz4 := hsz z4 (by simp)
    clear hcell HZ HM h5 hsz
    rw [show ([z0, z1, z2, z3, z4] : List ByteArray).length = 5 from rfl] at h1 ⊢
    have BAD : Hid (fiveW [bl z0, bl z1, bl z2, bl z3, bl z4] = none → readW (bl s) = (1, zeroW)) := fun h => readW_none (by rw [HP.out]; exact h)
    go_wp2_with fail
    refine (numberOf_any z3 1 (by decide) w1 (by omega)).mono ?_
    rintro e w' ⟨rfl, rfl⟩
    cases hk : numOf (bl z3) 1 with
    | none =>
      have HX := Lib.hid (BAD.out (fiveW_no4 hk))
      rw [show numI none = -1 from rfl]
      clear hk BAD
      go_wp2_with fail
      refine (readSum_any z4 w1 (by omega)).mono ?_
      rintro e w' ⟨rfl, rfl⟩
      go_wp2_with fail
      obtain ⟨s0, s1, s2, s3, s4⟩ := W2.out
      unfold wPut zeroW at s0 s1 s2 s3 s4
      refine bodyPost_ret (v := .tuple #[.agg #[.string ⟨#[]⟩, .string ⟨#[]⟩, .string ⟨#[]⟩, .int .i64 0, .int .i64 0], .int .i64 (1 : Nat)]) ?_ rfl (RWReadPost.of HX.out B2.out)
      simp [results, Tryz.results101, go_sem, s0, s1, s2, s3, s4]
    | some k =>
      rw [show numI (some k) = (k : Int) from rfl]
      have HK := Lib.hid hk
      have hk0 : ¬ (k : Int) < 0 := by omega
      clear hk
      go_wp2_with fail
      refine (readSum_any z4 w1 (by omega)).mono ?_
      rintro e w' ⟨rfl, rfl⟩
      cases hm : readS (bl z4) with
      | none =>
        have HX := Lib.hid (BAD.out (fiveW_no5 hm))
        rw [show readI none = 0 from rfl, show readC none = 1 from rfl]
        clear hm BAD
        go_wp2_with fail
        obtain ⟨s0, s1, s2, s3, s4⟩ := W2.out
        unfold wPut zeroW at s0 s1 s2 s3 s4
        refine bodyPost_ret (v := .tuple #[.agg #[.string ⟨#[]⟩, .string ⟨#[]⟩, .string ⟨#[]⟩, .int .i64 0, .int .i64 0], .int .i64 (1 : Nat)]) ?_ rfl (RWReadPost.of HX.out B2.out)
        simp [results, Tryz.results101, go_sem, s0, s1, s2, s3, s4]
      | some m' =>
        rw [show readI (some m') = (m' : Int) from rfl, show readC (some m') = 0 from rfl]
        have HF : Hid (fiveW (cutL 32 (bl s)) = some ⟨z0, z1, z2, k, m'⟩) := by show _ = _; rw [HP.out, fiveW_some HK.out hm]
        have e0 := Lib.cell?_alloc_some (.cells #[.string ⟨#[]⟩, .string ⟨#[]⟩, .string ⟨#[]⟩, .int .i64 0, .int .i64 0] 60) a0
        have e1 := Lib.cell?_alloc_some (.cells #[.string ⟨#[]⟩, .string ⟨#[]⟩, .string ⟨#[]⟩, .int .i64 0, .int .i64 0] 60) a1
        have e2 := Lib.cell?_alloc_some (.cells #[.string ⟨#[]⟩, .string ⟨#[]⟩, .string ⟨#[]⟩, .int .i64 0, .int .i64 0] 60) a2
        have NB : WBox (w1.alloc (.cells #[.string ⟨#[]⟩, .string ⟨#[]⟩, .string ⟨#[]⟩, .int .i64 0, .int .i64 0] 60)) w1.heap.size zeroW := WBox.new w1 zeroW
        obtain ⟨n0, n1, n2, n3, n4⟩ : (w1.alloc (.cells #[.string ⟨#[]⟩, .string ⟨#[]⟩, .string ⟨#[]⟩, .int .i64 0, .int .i64 0] 60)).cell? ⟨w1.heap.size, 0, none⟩ = some (.string ⟨#[]⟩) ∧ (w1.alloc (.cells #[.string ⟨#[]⟩, .string ⟨#[]⟩, .string ⟨#[]⟩, .int .i64 0, .int .i64 0] 60)).cell? ⟨w1.heap.size, 1, none⟩ = some (.string ⟨#[]⟩) ∧ (w1.alloc (.cells #[.string ⟨#[]⟩, .string ⟨#[]⟩, .string ⟨#[]⟩, .int .i64 0, .int .i64 0] 60)).cell? ⟨w1.heap.size, 2, none⟩ = some (.string ⟨#[]⟩) ∧ (w1.alloc (.cells #[.string ⟨#[]⟩, .string ⟨#[]⟩, .string ⟨#[]⟩, .int .i64 0, .int .i64 0] 60)).cell? ⟨w1.heap.size, 3, none⟩ = some (.int .i64 0) ∧ (w1.alloc (.cells #[.string ⟨#[]⟩, .string ⟨#[]⟩, .string ⟨#[]⟩, .int .i64 0, .int .i64 0] 60)).cell? ⟨w1.heap.size, 4, none⟩ = some (.int .i64 0) := NB.cells
        obtain ⟨g0, g1, g2, g3, g4⟩ := NB.froz
        clear hm BAD W2 B2 NB HK
        go_wp2_with fail
        go_region
        all_goals
          go_wp2_with fail
        obtain ⟨py, hpy⟩ : ∃ py, w1.heap.size = py := ⟨_, rfl⟩
        obtain ⟨wy, hwy⟩ : ∃ wy, (w1.alloc (.cells #[.string z0, .string z1, .string z2, .int .i64 k, .int .i64 m'] 60)).drew = wy := ⟨_, rfl⟩
        have hby : Below w1.heap.size w1 wy := by rw [← hwy]; exact ((Below.refl _ _).alloc (Nat.le_refl _) _).drew
        have BY : Hid (WBox wy py ⟨z0, z1, z2, k, m'⟩) := by show WBox _ _ _; rw [← hwy, ← hpy]; exact WBox.new w1 ⟨z0, z1, z2, k, m'⟩
        have B4 := Lib.hid (B1.out.trans (hby.mono B1.out.size))
        have BX4 := Lib.hid (BX1.out.ext hby)
        rw [hwy, hpy]
        clear hwy hpy hby e0 e1 e2 n0 n1 n2 n3 n4 g0 g1 g2 g3 g4 c0 c1 c2 c3 c4 f0 f1 f2 f3 f4 a0 a1 a2 a3 a4 BX1 BX
        refine (refWantError_any ⟨z0, z1, z2, k, m'⟩ wy (by show z0.size ≤ _; omega) (by show z1.size ≤ _; omega)).mono ?_
        rintro e w5 ⟨rfl, hb5⟩
        have B5 := Lib.hid (B4.out.trans (hb5.mono B4.out.size))
        have BX5 := Lib.hid (BX4.out.ext hb5)
        have BY5 := Lib.hid (BY.out.ext hb5)
        obtain ⟨c0, c1, c2, c3, c4⟩ := BX5.out.cells
        obtain ⟨f0, f1, f2, f3, f4⟩ := BX5.out.froz
        clear hb5 BY BX4
        cases hw : wantE ⟨z0, z1, z2, k, m'⟩ with
        | succ c =>
          have HX := Lib.hid (readW_bad HF.out hw)
          have W6 := Lib.hid ((BX5.out.store zeroW).cells)
          have B6 := Lib.hid (B5.out.trans (below_wPut w5 zeroW hpw))
          have hpos := @posN c
          clear hw
          generalize hnn : ((c + 1 : Nat) : Int) = n at hpos
          have HN := Lib.hid hnn
          clear hnn
          go_wp2_with fail
          obtain ⟨s0, s1, s2, s3, s4⟩ := W6.out
          unfold wPut zeroW at s0 s1 s2 s3 s4
          refine bodyPost_ret (v := .tuple #[.agg #[.string ⟨#[]⟩, .string ⟨#[]⟩, .string ⟨#[]⟩, .int .i64 0, .int .i64 0], .int .i64 (c + 1 : Nat)]) ?_ rfl (RWReadPost.of HX.out B6.out)
          rw [HN.out]
          simp [results, Tryz.results101, go_sem, s0, s1, s2, s3, s4]
        | zero =>
          have HX := Lib.hid (readW_fine HF.out hw)
          have W6 := Lib.hid ((BX5.out.store ⟨z0, z1, z2, k, m'⟩).cells)
          have B6 := Lib.hid (B5.out.trans (below_wPut w5 ⟨z0, z1, z2, k, m'⟩ hpw))
          obtain ⟨y0, y1, y2, y3, y4⟩ : w5.cell? ⟨py, 0, none⟩ = some (.string z0) ∧ w5.cell? ⟨py, 1, none⟩ = some (.string z1) ∧ w5.cell? ⟨py, 2, none⟩ = some (.string z2) ∧ w5.cell? ⟨py, 3, none⟩ = some (.int .i64 k) ∧ w5.cell? ⟨py, 4, none⟩ = some (.int .i64 m') := BY5.out.cells
          rw [show ((0 : Nat) : Int) = 0 from rfl]
          clear hw
          go_wp2_with fail
          obtain ⟨s0, s1, s2, s3, s4⟩ := W6.out
          unfold wPut at s0 s1 s2 s3 s4
          refine bodyPost_ret (v := .tuple #[.agg #[.string z0, .string z1, .string z2, .int .i64 k, .int .i64 m'], .int .i64 (0 : Nat)]) ?_ rfl (RWReadPost.of HX.out B6.out)
          simp [results, Tryz.results101, go_sem, s0, s1, s2, s3, s4]
end Go.Proofs.YtcjjbpoaojjojaaGreatDoor

namespace Go.Proofs.YtcjjbpoaojjojaaGreatDoor
open Go Go.RowKit

end Go.Proofs.YtcjjbpoaojjojaaGreatDoor
