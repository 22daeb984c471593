/- chandleryref1.RunsOf by its contract. -/
import Derived.Test.YtkglpgbpfngafaaDoorParse
import Derived.Test.YtkglpgbpfngafaaDoorStr
import Derived.Test.YtkglpgbpfngafaaDoorOwn
import Derived.Test.YtkglpgbpfngafaaDoorNumber
import Derived.IntWalk
import Derived.Deep.CutBlock
import Derived.Deep.DeepCutAuto
namespace Go.Proofs.YtkglpgbpfngafaaDoor
open Go Go.RowKit

abbrev encRun (r : Nat × UInt8) : List Value := [.int .i64 r.1, .int .u8 r.2.toNat]

/-- A fault of the references': its number, its place. -/
abbrev faultV (c a : Int) : Value := .agg #[.int .i64 c, .int .i64 a]

theorem two_setCell {w : World} {b : Nat} {u0 u1 : Value} {t : TypeId} (h : w.heap[b]? = some (.cells #[u0, u1] t (0, 0))) (x y : Value) :
    ((w.setCell ⟨b, 0, none⟩ x).setCell ⟨b, 1, none⟩ y).heap[b]? = some (.cells #[x, y] t (0, 0)) := by
  simp [World.setCell, Array.getElem?_modify, h]

/-- What RunsOf tells: the runs (none where it is wrong), and a fault. -/
def rlist (r : List (Nat × UInt8) × Option Nat) : List (Nat × UInt8) := match r.2 with
  | none => r.1
  | some _ => []
def rcode (r : List (Nat × UInt8) × Option Nat) : Int := match r.2 with
  | none => 0
  | some _ => 1
def rat (r : List (Nat × UInt8) × Option Nat) : Int := match r.2 with
  | none => -1
  | some p => p
theorem r_some {r : List (Nat × UInt8) × Option Nat} {acc : List (Nat × UInt8)} {p : Nat} (h : r = (acc, some p)) : rlist r = [] ∧ rcode r = 1 ∧ rat r = p := by subst h; exact ⟨rfl, rfl, rfl⟩
theorem r_none {r : List (Nat × UInt8) × Option Nat} {acc : List (Nat × UInt8)} (h : r = (acc, none)) : rlist r = acc ∧ rcode r = 0 ∧ rat r = -1 := by subst h; exact ⟨rfl, rfl, rfl⟩

def RunsEnd (w : World) (r : List (Nat × UInt8) × Option Nat) (e : Ending) (w' : World) : Prop :=
  ∃ v, e = .returned (.tuple #[v, faultV (rcode r) (rat r)]) ∧ Row encRun 2 w' v (rlist r) ∧ Below w.heap.size w w'
theorem RunsEnd.bad {w w' : World} {r : List (Nat × UInt8) × Option Nat} {acc : List (Nat × UInt8)} {p : Nat} (h : r = (acc, some p)) (q : Int) (hq : q = p) (hb : Below w.heap.size w w') :
    RunsEnd w r (.returned (.tuple #[.slice none 0 0, faultV 1 q])) w' := by
  obtain ⟨h1, h2, h3⟩ := r_some h
  exact ⟨_, by rw [h2, h3, hq], by rw [h1]; exact Row.nil _ _ _, hb⟩
theorem RunsEnd.good {w w' : World} {r : List (Nat × UInt8) × Option Nat} {acc : List (Nat × UInt8)} {v : Value} (h : r = (acc, none)) (hr : Row encRun 2 w' v acc) (hb : Below w.heap.size w w') :
    RunsEnd w r (.returned (.tuple #[v, faultV 0 (-1)])) w' := by
  obtain ⟨h1, h2, h3⟩ := r_none h
  exact ⟨_, by rw [h2, h3], by rw [h1]; exact hr, hb⟩

theorem fine_any (w : World) : Calls Tryd.prog 57 #[] w fun e w' => e = .returned (faultV 0 (-1)) ∧ Below w.heap.size w w' := by
  go_enter Tryd.func57, Tryd.ntmps57
  go_wp2
  refine bodyPost_ret (v := faultV 0 (-1)) (by simp [results, Tryd.results57, go_sem]) rfl ⟨rfl, (Below.refl _ _).alloc (Nat.le_refl _) _⟩

theorem PP.end_p {s : ByteArray} {i p : Nat} {acc : List (Nat × UInt8)} (h : PP s i acc) (hi : i < s.size) (hip : i ≤ p) (hk : (numGo ((bl s).drop i) 0 0).2 = p - i) (h0 : p ≠ i) (he : p = s.size) : runsL (bl s) = (acc, some p) := by
  obtain ⟨k, rfl⟩ : ∃ k, p = i + k := ⟨p - i, by omega⟩
  exact h.fail fun f => parse_end hi (by rw [hk]; omega) (by omega) he
theorem PP.sign_p {s : ByteArray} {i p : Nat} {acc : List (Nat × UInt8)} (h : PP s i acc) (hi : i < s.size) (hip : i ≤ p) (hk : (numGo ((bl s).drop i) 0 0).2 = p - i) (h0 : p ≠ i) (he : p < s.size) (hc : s[p] ≠ 58) : runsL (bl s) = (acc, some p) := by
  obtain ⟨k, rfl⟩ : ∃ k, p = i + k := ⟨p - i, by omega⟩
  exact h.fail fun f => parse_sign hi (by rw [hk]; omega) (by omega) he hc
theorem PP.last_p {s : ByteArray} {i p : Nat} {acc : List (Nat × UInt8)} (h : PP s i acc) (hi : i < s.size) (hip : i ≤ p) (hk : (numGo ((bl s).drop i) 0 0).2 = p - i) (h0 : p ≠ i) (he : p < s.size) (hc : s[p] = 58) (hl : p + 1 = s.size) : runsL (bl s) = (acc, some (p + 1)) := by
  obtain ⟨k, rfl⟩ : ∃ k, p = i + k := ⟨p - i, by omega⟩
  exact h.fail fun f => parse_last hi (by rw [hk]; omega) (by omega) he hc hl
theorem PP.step_p {s : ByteArray} {i p m : Nat} {acc : List (Nat × UInt8)} (h : PP s i acc) (hi : i < s.size) (hip : i ≤ p) (hk : numGo ((bl s).drop i) 0 0 = (m, p - i)) (h0 : p ≠ i) (he : p + 1 < s.size) (hc : s[p] = 58) :
    PP s (p + 2) (acc ++ [(m, s[p + 1])]) := by
  obtain ⟨k, rfl⟩ : ∃ k, p = i + k := ⟨p - i, by omega⟩
  have := h.step hi (k := k) (by rw [hk]; simp) (by omega) he hc
  rw [hk] at this; exact this

theorem numGo_at (s : ByteArray) (p j m : Nat) (h : p < s.size) : numGo ((bl s).drop p) j m =
    if j < 9 ∧ 48 ≤ s[p].toNat ∧ s[p].toNat ≤ 57 ∧ (0 < j ∨ s[p].toNat ≠ 48) then numGo ((bl s).drop (p + 1)) (j + 1) (10 * m + (s[p].toNat - 48)) else (m, j) := by
  rw [drop_cons s p h]; rfl
theorem numGo_out (s : ByteArray) (p j m : Nat) (h : ¬ p < s.size) : numGo ((bl s).drop p) j m = (m, j) := by
  rw [drop_nil s p (by omega)]; rfl

theorem Tryd.infoRun : (Tryd.prog.info? 87).map (fun i => (i.zero, i.size, i.bytes)) = some (some (.agg #[.int .i64 0, .int .u8 0]), 2, 16) := by kernel_rfl

set_option maxHeartbeats 2000000 in
set_option maxRecDepth 100000 in
theorem runsOf_any (s : ByteArray) (w : World) (hs : s.size ≤ 1073741824) :
    Calls Tryd.prog 20 #[.string s] w (RunsEnd w (runsL (bl s))) := by
  obtain ⟨i0, hi0, hz0, hz1, hz2⟩ := info_parts Tryd.infoRun
  go_enter Tryd.func20, Tryd.ntmps20
  go_wp2_with fail
  go_loopw [4, 5] (fun v i wr => ∃ (k : Nat) (acc : List (Nat × UInt8)), k ≤ s.size ∧ i = .int .i64 k ∧ acc.length ≤ k ∧ Hid (PP s k acc) ∧
      wr.ownsRow (w.heap.size + 1) 87 2 v acc.length (acc.flatMap encRun) ∧ wr.heap[w.heap.size]? = some (.cells #[.int .i64 0, .int .i64 0] 43 (0, 0)) ∧ Below w.heap.size w wr) (fun _ i _ => s.size - (intOf i).toNat)
  case atStart => exact ⟨0, [], Nat.zero_le _, rfl, Nat.zero_le _, PP.start s, World.ownsRow_nil _ _ _ _, heap_alloc_new w _, (Below.refl _ _).alloc (Nat.le_refl _) _⟩
  case round =>
    obtain ⟨i, acc, hi, rfl, hacc, HP, hown, hb0, hb⟩ := hrel
    by_cases hlt : i < s.size
    · go_upto_block 2 with fail
      go_cut [6, 7] (fun n7 p7 wx => wx = wr ∧ ∃ p m : Nat, i ≤ p ∧ p ≤ s.size ∧ p ≤ i + 9 ∧ m < 1000000000 ∧ n7 = .int .i64 m ∧ p7 = .int .i64 p ∧ Hid (numGo ((bl s).drop i) 0 0 = (m, p - i)))
      case first =>
        clear HP hown hb0 hb
        go_wp2_with fail
        go_loop [6, 7] (fun n7 p7 => ∃ p m : Nat, i ≤ p ∧ p ≤ s.size ∧ p ≤ i + 9 ∧ m < 10 ^ (p - i) ∧ n7 = .int .i64 m ∧ p7 = .int .i64 p ∧ Hid (numGo ((bl s).drop p) (p - i) m = numGo ((bl s).drop i) 0 0)) (fun _ p7 => s.size - (intOf p7).toNat)
        case atStart => exact ⟨i, 0, Nat.le_refl _, by omega, by omega, by simp, rfl, rfl, by simp [Hid]⟩
        case round =>
          obtain ⟨p, m, hip, hps, hp9, hm, rfl, rfl, HN⟩ := hrel
          have hpw : 10 ^ (p - i) ≤ 10 ^ 9 := Nat.pow_le_pow_right (by decide) (by omega)
          have hm9 : m < 1000000000 := Nat.lt_of_lt_of_le hm hpw
          have HM := Lib.hid hm
          clear hpw hm
          by_cases hp : p < s.size
          · by_cases h9 : p < i + 9
            · by_cases hgood : 48 ≤ s[p].toNat ∧ s[p].toNat ≤ 57 ∧ (i < p ∨ s[p].toNat ≠ 48)
              · obtain ⟨g1, g2, g3⟩ := hgood
                have HF : Hid (numGo ((bl s).drop (p + 1)) (p + 1 - i) (10 * m + (s[p].toNat - 48)) = numGo ((bl s).drop i) 0 0) := by
                  show _ = _
                  rw [← HN.out, numGo_at s p _ m hp, if_pos ⟨by omega, g1, g2, by omega⟩, show p - i + 1 = p + 1 - i by omega]
                have HM2 : Hid (10 * m + (s[p].toNat - 48) < 10 ^ (p + 1 - i)) := by
                  show _ < _
                  have := HM.out
                  rw [show p + 1 - i = (p - i) + 1 by omega, Nat.pow_succ]; omega
                have g1' : 48 ≤ (s[p].toNat : Int) := by omega
                have g2' : (s[p].toNat : Int) ≤ 57 := by omega
                clear HN HM g1 g2
                by_cases hpi : p = i
                · subst hpi
                  have b1 : ((s[p].toNat : Int) == 48) = false := by simp; omega
                  clear g3
                  go_wp2_with fail
                  go_round
                  case rel => exact ⟨p + 1, 10 * m + (s[p].toNat - 48), by omega, by omega, by omega, HM2.out, by go_num, by go_num, HF⟩
                  case measure => simp [intOf]; omega
                · have b1 : ((p : Int) == i) = false := by simp; omega
                  clear g3
                  go_wp2_with fail
                  go_round
                  case rel => exact ⟨p + 1, 10 * m + (s[p].toNat - 48), by omega, by omega, by omega, HM2.out, by go_num, by go_num, HF⟩
                  case measure => simp [intOf]; omega
              · have HF : Hid (numGo ((bl s).drop i) 0 0 = (m, p - i)) := by
                  show _ = _
                  rw [← HN.out, numGo_at s p _ m hp, if_neg (by omega)]
                clear HN HM
                by_cases g1 : s[p].toNat < 48
                · have g1' : (s[p].toNat : Int) < 48 := by omega
                  clear hgood g1
                  go_wp2_with fail
                  go_meet
                  exact ⟨rfl, p, m, hip, hps, hp9, hm9, rfl, rfl, HF⟩
                · have g1' : 48 ≤ (s[p].toNat : Int) := by omega
                  by_cases g2 : 57 < s[p].toNat
                  · have g2' : 57 < (s[p].toNat : Int) := by omega
                    clear hgood g1 g2
                    go_wp2_with fail
                    go_meet
                    exact ⟨rfl, p, m, hip, hps, hp9, hm9, rfl, rfl, HF⟩
                  · have g2' : (s[p].toNat : Int) ≤ 57 := by omega
                    have hpi : p = i := by omega
                    have hc8 : s[p].toNat = 48 := by omega
                    have b2 : ((s[p].toNat : Int) == 48) = true := by simp; omega
                    subst hpi
                    clear hgood g1 g2 hc8
                    go_wp2_with fail
                    go_meet
                    exact ⟨rfl, p, m, hip, hps, hp9, hm9, rfl, rfl, HF⟩
            · have HF : Hid (numGo ((bl s).drop i) 0 0 = (m, p - i)) := by
                show _ = _
                rw [← HN.out, numGo_at s p _ m hp, if_neg (by omega)]
              clear HN
              go_wp2_with fail
              go_meet
              exact ⟨rfl, p, m, hip, hps, hp9, hm9, rfl, rfl, HF⟩
          · have HF : Hid (numGo ((bl s).drop i) 0 0 = (m, p - i)) := by
              show _ = _
              rw [← HN.out, numGo_out s p _ m hp]
            clear HN
            go_wp2_with fail
            go_meet
            exact ⟨rfl, p, m, hip, hps, hp9, hm9, rfl, rfl, HF⟩
      case rest =>
        obtain ⟨rfl, p, m, hip, hps, hp9, hm9, rfl, rfl, HN⟩ := hcut
        have HK : Hid ((numGo ((bl s).drop i) 0 0).2 = p - i) := by show _ = _; rw [HN.out]
        have hbl : w.heap.size < wc.heap.size := (Array.getElem?_eq_some_iff.1 hb0).1
        have c0 : wc.cell? ⟨w.heap.size, 0, none⟩ = some (.int .i64 0) := by simp [World.cell?, hb0]
        have c1 : wc.cell? ⟨w.heap.size, 1, none⟩ = some (.int .i64 0) := by simp [World.cell?, hb0]
        have f0 : wc.frozen? ⟨w.heap.size, 0, none⟩ = false := by simp [World.frozen?, hb0]
        have f1 : wc.frozen? ⟨w.heap.size, 1, none⟩ = false := by simp [World.frozen?, hb0]
        by_cases hpi : p = i
        · subst hpi
          have HF : Hid (runsL (bl s) = (acc, some p)) := HP.out.fail fun f => parse_none hlt (by rw [HK.out]; omega)
          clear HP HN HK hown
          go_wp2_with fail
          have h2 := two_setCell hb0 (.int .i64 1) (.int .i64 (p : Int))
          have hB2 : Below w.heap.size w ((wc.setCell ⟨w.heap.size, 0, none⟩ (.int .i64 1)).setCell ⟨w.heap.size, 1, none⟩ (.int .i64 (p : Int))) := (hb.setCell (p := ⟨w.heap.size, 0, none⟩) (Nat.le_refl _) _).setCell (p := ⟨w.heap.size, 1, none⟩) (Nat.le_refl _) _
          generalize (wc.setCell ⟨w.heap.size, 0, none⟩ (.int .i64 1)).setCell ⟨w.heap.size, 1, none⟩ (.int .i64 (p : Int)) = W1 at h2 hB2 ⊢
          have d0 : W1.cell? ⟨w.heap.size, 0, none⟩ = some (.int .i64 1) := by simp [World.cell?, h2]
          have d1 : W1.cell? ⟨w.heap.size, 1, none⟩ = some (.int .i64 (p : Int)) := by simp [World.cell?, h2]
          exact bodyPost_ret (v := .tuple #[.slice none 0 0, faultV 1 (p : Int)]) (by simp [results, Tryd.results20, go_sem, d0, d1]) rfl (RunsEnd.bad HF.out _ (by omega) hB2)
        · have b1 : ((p : Int) == i) = false := by simp; omega
          by_cases hend : p = s.size
          · have HF : Hid (runsL (bl s) = (acc, some p)) := HP.out.end_p hlt hip HK.out hpi hend
            have b2 : ((p : Int) == s.size) = true := by simp; omega
            clear HP HN HK hown hend hpi
            go_wp2_with fail
            have h2 := two_setCell hb0 (.int .i64 1) (.int .i64 (p : Int))
            have hB2 : Below w.heap.size w ((wc.setCell ⟨w.heap.size, 0, none⟩ (.int .i64 1)).setCell ⟨w.heap.size, 1, none⟩ (.int .i64 (p : Int))) := (hb.setCell (p := ⟨w.heap.size, 0, none⟩) (Nat.le_refl _) _).setCell (p := ⟨w.heap.size, 1, none⟩) (Nat.le_refl _) _
            generalize (wc.setCell ⟨w.heap.size, 0, none⟩ (.int .i64 1)).setCell ⟨w.heap.size, 1, none⟩ (.int .i64 (p : Int)) = W1 at h2 hB2 ⊢
            have d0 : W1.cell? ⟨w.heap.size, 0, none⟩ = some (.int .i64 1) := by simp [World.cell?, h2]
            have d1 : W1.cell? ⟨w.heap.size, 1, none⟩ = some (.int .i64 (p : Int)) := by simp [World.cell?, h2]
            exact bodyPost_ret (v := .tuple #[.slice none 0 0, faultV 1 (p : Int)]) (by simp [results, Tryd.results20, go_sem, d0, d1]) rfl (RunsEnd.bad HF.out _ (by omega) hB2)
          · have b2 : ((p : Int) == s.size) = false := by simp; omega
            have hp : p < s.size := by omega
            by_cases hc : s[p] = 58
            · have b3 : ((s[p].toNat : Int) != 58) = false := by rw [hc]; rfl
              by_cases hl : p + 1 = s.size
              · have HF : Hid (runsL (bl s) = (acc, some (p + 1))) := HP.out.last_p hlt hip HK.out hpi hp hc hl
                have b4 : ((p : Int) + 1 == s.size) = true := by simp; omega
                clear HP HN HK hown hend hpi hc hl
                go_wp2_with fail
                have h2 := two_setCell hb0 (.int .i64 1) (.int .i64 ((p : Int) + 1))
                have hB2 : Below w.heap.size w ((wc.setCell ⟨w.heap.size, 0, none⟩ (.int .i64 1)).setCell ⟨w.heap.size, 1, none⟩ (.int .i64 ((p : Int) + 1))) := (hb.setCell (p := ⟨w.heap.size, 0, none⟩) (Nat.le_refl _) _).setCell (p := ⟨w.heap.size, 1, none⟩) (Nat.le_refl _) _
                generalize (wc.setCell ⟨w.heap.size, 0, none⟩ (.int .i64 1)).setCell ⟨w.heap.size, 1, none⟩ (.int .i64 ((p : Int) + 1)) = W1 at h2 hB2 ⊢
                have d0 : W1.cell? ⟨w.heap.size, 0, none⟩ = some (.int .i64 1) := by simp [World.cell?, h2]
                have d1 : W1.cell? ⟨w.heap.size, 1, none⟩ = some (.int .i64 ((p : Int) + 1)) := by simp [World.cell?, h2]
                exact bodyPost_ret (v := .tuple #[.slice none 0 0, faultV 1 ((p : Int) + 1)]) (by simp [results, Tryd.results20, go_sem, d0, d1]) rfl (RunsEnd.bad HF.out _ (by omega) hB2)
              · have hl2 : p + 1 < s.size := by omega
                have b4 : ((p : Int) + 1 == s.size) = false := by simp; omega
                have HS : Hid (PP s (p + 2) (acc ++ [(m, s[p + 1])])) := HP.out.step_p hlt hip HN.out hpi hl2 hc
                have e4 : ∀ W : World, (Instr.index 9 (.string s) (.int .i64 ((p : Int) + 1))).run Tryd.prog W = .ok (.int .u8 s[p + 1].toNat) W := index_nat s _ (p + 1) hl2 (by omega)
                have HOWN := Lib.hid hown
                clear HP HN HK hend hpi hc hl c0 c1 f0 f1 hown
                go_wp2_with (at_builtin; refine wpList_append_own _ rfl _ _ 41 rfl (w.heap.size + 1) 87 i0 (.agg #[.int .i64 0, .int .u8 0]) 2 16 Tryd.underlying41 hi0 hz0 hz1 hz2 rfl (by decide) _ _ _ rfl (HOWN.out.alloc _) ⟨wc.heap.size, 0, none⟩ 1 1 (encRun (m, s[p + 1])) rfl rfl ?c1 ?c2 ?c3 ?c4 ?c5 ?_)
                case c1 =>
                  intro j u hj
                  match j, hj with
                  | 0, hj => simp at hj; subst hj; simp [Addr.add]
                  | 1, hj => simp at hj; subst hj; simp [Addr.add]
                case c2 => intro u hu; simp at hu; rcases hu with rfl | rfl <;> rfl
                case c3 => rw [maxLen_eq]; omega
                case c4 => omega
                case c5 => simp; omega
                intro v' w2 hown' hgrow _
                have hown2 : w2.ownsRow (w.heap.size + 1) 87 2 v' (acc ++ [(m, s[p + 1])]).length ((acc ++ [(m, s[p + 1])]).flatMap encRun) := by
                  simpa using hown'
                have hlb : w.heap.size < wc.heap.size := hbl
                have hrow : ∀ q, u4.ownBlock = some q → w.heap.size + 1 ≤ q := fun q hq => (HOWN.out.lt q hq).1
                have hb02 : w2.heap[w.heap.size]? = some (.cells #[.int .i64 0, .int .i64 0] 43 (0, 0)) := by
                  rw [hgrow.block w.heap.size (by simp; omega) (fun e => by have := hrow _ e.symm; omega), Below.heap_alloc _ _ _ hbl]
                  exact hb0
                have hbb : Below w.heap.size w w2 := (hb.alloc hb.size _).grown hgrow (by simp; omega) (fun q hq => by have := hrow q hq; omega)
                clear hown' hgrow HOWN hrow e4
                go_wp2_with fail
                go_roundw
                case rel => exact ⟨p + 2, acc ++ [(m, s[p + 1])], by omega, by go_num, by simp; omega, HS, hown2, hb02, hbb⟩
                case measure => simp [intOf]; omega
            · have HF : Hid (runsL (bl s) = (acc, some p)) := HP.out.sign_p hlt hip HK.out hpi hp hc
              have b3 : ((s[p].toNat : Int) != 58) = true := by
                rw [bne_iff_ne]; intro h; exact hc (UInt8.toNat_inj.1 (by show _ = 58; omega))
              clear HP HN HK hown hend hpi hc
              go_wp2_with fail
              have h2 := two_setCell hb0 (.int .i64 1) (.int .i64 (p : Int))
              have hB2 : Below w.heap.size w ((wc.setCell ⟨w.heap.size, 0, none⟩ (.int .i64 1)).setCell ⟨w.heap.size, 1, none⟩ (.int .i64 (p : Int))) := (hb.setCell (p := ⟨w.heap.size, 0, none⟩) (Nat.le_refl _) _).setCell (p := ⟨w.heap.size, 1, none⟩) (Nat.le_refl _) _
              generalize (wc.setCell ⟨w.heap.size, 0, none⟩ (.int .i64 1)).setCell ⟨w.heap.size, 1, none⟩ (.int .i64 (p : Int)) = W1 at h2 hB2 ⊢
              have d0 : W1.cell? ⟨w.heap.size, 0, none⟩ = some (.int .i64 1) := by simp [World.cell?, h2]
              have d1 : W1.cell? ⟨w.heap.size, 1, none⟩ = some (.int .i64 (p : Int)) := by simp [World.cell?, h2]
              exact bodyPost_ret (v := .tuple #[.slice none 0 0, faultV 1 (p : Int)]) (by simp [results, Tryd.results20, go_sem, d0, d1]) rfl (RunsEnd.bad HF.out _ (by omega) hB2)
    · have HF : Hid (runsL (bl s) = (acc, none)) := HP.out.done hlt
      have hbl : w.heap.size < wr.heap.size := (Array.getElem?_eq_some_iff.1 hb0).1
      clear HP
      go_wp2_with fail
      refine (fine_any _).mono ?_
      rintro e w2 ⟨rfl, hb2⟩
      have hb02 : w2.heap[w.heap.size]? = some (.cells #[.int .i64 0, .int .i64 0] 43 (0, 0)) := by rw [hb2.block _ hbl]; exact hb0
      have hown2 := owns_below hown hb2
      have hbb : Below w.heap.size w w2 := hb.trans (hb2.mono hb.size)
      have c0 : w2.cell? ⟨w.heap.size, 0, none⟩ = some (.int .i64 0) := by simp [World.cell?, hb02]
      have c1 : w2.cell? ⟨w.heap.size, 1, none⟩ = some (.int .i64 0) := by simp [World.cell?, hb02]
      have f0 : w2.frozen? ⟨w.heap.size, 0, none⟩ = false := by simp [World.frozen?, hb02]
      have f1 : w2.frozen? ⟨w.heap.size, 1, none⟩ = false := by simp [World.frozen?, hb02]
      clear hb2
      go_wp2_with fail
      have h2 := two_setCell hb02 (.int .i64 0) (.int .i64 (-1))
      have hB2 : Below w.heap.size w ((w2.setCell ⟨w.heap.size, 0, none⟩ (.int .i64 0)).setCell ⟨w.heap.size, 1, none⟩ (.int .i64 (-1))) := (hbb.setCell (p := ⟨w.heap.size, 0, none⟩) (Nat.le_refl _) _).setCell (p := ⟨w.heap.size, 1, none⟩) (Nat.le_refl _) _
      have hO2 := ownsRow_setCell_below (ownsRow_setCell_below hown2 (a := ⟨w.heap.size, 0, none⟩) (Nat.lt_succ_self _) (.int .i64 0)) (a := ⟨w.heap.size, 1, none⟩) (Nat.lt_succ_self _) (.int .i64 (-1))
      generalize (w2.setCell ⟨w.heap.size, 0, none⟩ (.int .i64 0)).setCell ⟨w.heap.size, 1, none⟩ (.int .i64 (-1)) = W1 at h2 hB2 hO2 ⊢
      have d0 : W1.cell? ⟨w.heap.size, 0, none⟩ = some (.int .i64 0) := by simp [World.cell?, h2]
      have d1 : W1.cell? ⟨w.heap.size, 1, none⟩ = some (.int .i64 (-1)) := by simp [World.cell?, h2]
      exact bodyPost_ret (v := .tuple #[u4, faultV 0 (-1)]) (by simp [results, Tryd.results20, go_sem, d0, d1]) rfl (RunsEnd.good HF.out (Row.of_owns (enc := encRun) (fun _ => rfl) hO2) hB2)
end Go.Proofs.YtkglpgbpfngafaaDoor
