/- press.each by its contract: whatever it is to do at each run, as an invariant on the runs so far. press.Size by its contract. press.Open by its contract. chandleryref1.RunsOf by its contract. chandleryref1.SizeOf, Bare by their contracts. chandleryref1.OpenOf by its contract. -/
import Derived.Test.YtomceddfbfpjjaaGreatDoorKPlainly
import Derived.Test.YtomceddfbfpjjaaGreatDoorKParsed
import Derived.Test.YtomceddfbfpjjaaGreatDoorKRowed
import Derived.Test.YtomceddfbfpjjaaGreatDoorKErrors
import Derived.IntWalk
import Derived.OneCell
import Derived.Shelf.Abstract
import Derived.Test.YtomceddfbfpjjaaGreatDoorKTexts
import Derived.Test.YtomceddfbfpjjaaGreatDoorKShelf
import Derived.Deep.QuietTactic
import Derived.BigQuiet
import Derived.Deep.CutBlock
import Derived.Deep.DeepCutAuto
import Derived.Deep.RegionWith
namespace Go.Proofs.YtomceddfbfpjjaaGreatDoor
open Go Go.RowKit

theorem bl_from (s : ByteArray) (i : Nat) : bl (s.extract i s.size) = (bl s).drop i := by
  rw [bl_extract, List.take_of_length_le]
  rw [List.length_drop, bl_length]; omega

theorem number_at (s : ByteArray) (i : Nat) (w : World) (hs : s.size ≤ 1073741824) :
    Calls Tryz.prog 178 #[.string (s.extract i s.size)] w fun e w' => ∃ n k : Nat,
      e = .returned (.tuple #[.int .i64 n, .int .i64 k]) ∧ Hid (numGo ((bl s).drop i) 0 0 = (n, k)) ∧ n < 1000000000 ∧ i + k ≤ max i s.size ∧ w = w' := by
  refine (number_any _ w (by rw [ByteArray.size_extract]; omega)).mono ?_
  rintro e w' ⟨rfl, rfl⟩
  rw [bl_from]
  refine ⟨_, _, rfl, rfl, numGo_lt _, ?_, rfl⟩
  have := numGo_le ((bl s).drop i) 0 0
  rw [List.length_drop, bl_length] at this
  omega

/-- What a call of each ends in. -/
def EachEnd (E : Nat → Addr) (I : List (Nat × UInt8) → World → Prop) (r : List (Nat × UInt8) × Option Nat) (e : Ending) (w' : World) : Prop :=
  match r.2 with
  | none => e = .returned .nilIface ∧ I r.1 w'
  | some p => ∃ W, I r.1 W ∧ e = .returned (.iface 134 (.pointer (some ⟨W.heap.size, 0, none⟩))) ∧ w' = W.alloc (.cells #[.int .i64 p, sentV E 0] 137)

theorem EachEnd.err {E : Nat → Addr} {I : List (Nat × UInt8) → World → Prop} {r : List (Nat × UInt8) × Option Nat} {acc : List (Nat × UInt8)} {p : Nat} {W : World} (h : r = (acc, some p)) (hI : I acc W) (q : Int) (hq : q = p) :
    EachEnd E I r (.returned (.iface 134 (.pointer (some ⟨W.heap.size, 0, none⟩)))) (W.alloc (.cells #[.int .i64 q, sentV E 0] 137)) := by
  subst h; subst hq; exact ⟨W, hI, rfl, rfl⟩
theorem EachEnd.ok {E : Nat → Addr} {I : List (Nat × UInt8) → World → Prop} {r : List (Nat × UInt8) × Option Nat} {acc : List (Nat × UInt8)} {W : World} (h : r = (acc, none)) (hI : I acc W) :
    EachEnd E I r (.returned .nilIface) W := by
  subst h; exact ⟨rfl, hI⟩

set_option maxHeartbeats 1000000 in
set_option maxRecDepth 100000 in
theorem each_any {E : Nat → Addr} (s : ByteArray) (w : World) (hs : s.size ≤ 1073741824) (g : Nat) (cb : Array Value) (I : List (Nat × UInt8) → World → Prop)
    (eg : ∀ args w, (callFunc g args).run Tryz.prog w = .ok (.enter g args) w)
    (hdo : ∀ acc (n : Nat) (c : UInt8) W, I acc W → n < 1000000000 → (∃ rest, acc ++ (n, c) :: rest = (runsL (bl s)).1) → Calls Tryz.prog g (#[.int .i64 n, .int .u8 c.toNat] ++ cb) W fun e W' => e = .returned (.tuple #[]) ∧ I (acc ++ [(n, c)]) W')
    (hE : ∀ acc W, I acc W → W.cell? ⟨6, 0, none⟩ = some (sentV E 0)) (h0 : I [] w) :
    Calls Tryz.prog 157 #[.string s, .func (.func g) #[] cb] w (EachEnd E I (runsL (bl s))) := by
  have HD := Lib.hid hdo
  have HE := Lib.hid hE
  clear hdo hE
  go_enter Tryz.func157, Tryz.ntmps157
  go_wp2_with fail
  go_loopw [4, 5] (fun z i wr => ∃ (k : Nat) (acc : List (Nat × UInt8)), k ≤ s.size ∧ i = .int .i64 k ∧ z = .nilIface ∧ acc.length ≤ k ∧ Hid (PP s k acc) ∧ Hid (I acc wr)) (fun _ i _ => s.size - (intOf i).toNat)
  case atStart => exact ⟨0, [], Nat.zero_le _, rfl, rfl, Nat.le_refl _, PP.start s, h0⟩
  case round =>
    obtain ⟨i, acc, hi, rfl, rfl, hacc, HP, HI⟩ := hrel
    clear h0
    have hE0 := HE.out _ _ HI.out
    by_cases hlt : i < s.size
    · have sf : ∀ W : World, (Instr.slice 9 (.string s) (some (.int .i64 (i : Int))) none none).run Tryz.prog W = .ok (.string (s.extract i s.size)) W := slice_from s _ i hi rfl
      go_wp2_with fail
      refine (number_at s i _ hs).mono ?_
      rintro e w1 ⟨n, k, rfl, HN, hn9, hik, rfl⟩
      clear sf
      have hik2 : i + k ≤ s.size := by omega
      have HN2 : Hid ((numGo ((bl s).drop i) 0 0).2 = k) := by show _ = _; rw [HN.out]
      by_cases hk0 : k = 0
      · subst hk0
        have HF : Hid (runsL (bl s) = (acc, some i)) := HP.out.fail fun f => parse_none hlt HN2.out
        clear HP HN HN2
        go_wp2_with fail
        go_ret
        exact EachEnd.err HF.out HI.out _ (by omega)
      · have hkb : ((k : Int) == 0) = false := by simp; omega
        by_cases he : i + k = s.size
        · have HF : Hid (runsL (bl s) = (acc, some (i + k))) := HP.out.fail fun f => parse_end hlt HN2.out hk0 he
          have heb : ((i : Int) + k == s.size) = true := by simp; omega
          have he2 : s.size ≤ i + k := by omega
          clear HP HN HN2 he
          go_wp2_with fail
          go_ret
          exact EachEnd.err HF.out HI.out _ (by omega)
        · have he2 : i + k < s.size := by omega
          have heb : ((i : Int) + k == s.size) = false := by simp; omega
          have e3 : ∀ W : World, (Instr.index 9 (.string s) (.int .i64 ((i : Int) + k))).run Tryz.prog W = .ok (.int .u8 s[i + k].toNat) W := index_nat s _ (i + k) he2 (by omega)
          by_cases hc : s[i + k] = 58
          · have hcb : (((s[i + k].toNat : Nat) : Int) != 58) = false := by rw [hc]; rfl
            by_cases hl : i + k + 1 = s.size
            · have HF : Hid (runsL (bl s) = (acc, some (i + k + 1))) := HP.out.fail fun f => parse_last hlt HN2.out hk0 he2 hc hl
              have hlb : ((i : Int) + k + 1 == s.size) = true := by simp; omega
              clear HP HN HN2 he hc hl
              go_wp2_with fail
              go_ret
              exact EachEnd.err HF.out HI.out _ (by omega)
            · have hl2 : i + k + 1 < s.size := by omega
              have hlb : ((i : Int) + k + 1 == s.size) = false := by simp; omega
              have HS : Hid (PP s (i + k + 2) (acc ++ [(n, s[i + k + 1])])) := by
                have := HP.out.step hlt HN2.out hk0 hl2 hc
                rw [HN.out] at this; exact this
              have e4 : ∀ W : World, (Instr.index 9 (.string s) (.int .i64 ((i : Int) + k + 1))).run Tryz.prog W = .ok (.int .u8 s[i + k + 1].toNat) W := index_nat s _ (i + k + 1) hl2 (by omega)
              have hcall := HD.out acc n s[i + k + 1] wr HI.out hn9 HS.out.rest
              have HC := Lib.hid hcall
              clear HP HN HN2 he hc hl hcall
              go_wp2_with fail
              refine HC.out.mono ?_
              rintro e w2 ⟨rfl, hI2⟩
              have HI2 := Lib.hid hI2
              clear hI2 HC e3 e4 hE0
              go_wp2_with fail
              go_roundw
              case rel => exact ⟨i + k + 2, acc ++ [(n, s[i + k + 1])], by omega, by go_num, rfl, by simp; omega, HS, HI2⟩
              case measure => simp [intOf]; omega
          · have HF : Hid (runsL (bl s) = (acc, some (i + k))) := HP.out.fail fun f => parse_sign hlt HN2.out hk0 he2 hc
            have hcb : (((s[i + k].toNat : Nat) : Int) != 58) = true := by
              rw [bne_iff_ne]; intro h; exact hc (UInt8.toNat_inj.1 (by show _ = 58; omega))
            clear HP HN HN2 he hc
            go_wp2_with fail
            go_ret
            exact EachEnd.err HF.out HI.out _ (by omega)
    · have HF : Hid (runsL (bl s) = (acc, none)) := HP.out.done hlt
      clear HP
      go_wp2_with fail
      go_ret
      exact EachEnd.ok HF.out HI.out
end Go.Proofs.YtomceddfbfpjjaaGreatDoor

namespace Go.Proofs.YtomceddfbfpjjaaGreatDoor
open Go Go.RowKit

theorem size1_any (n : Nat) (c : UInt8) (b a : Nat) (w : World) (ha : a + n ≤ 9223372036854775807) (hc : w.cell? ⟨b, 0, none⟩ = some (.int .i64 a)) (hf : w.frozen? ⟨b, 0, none⟩ = false) :
    Calls Tryz.prog 177 #[.int .i64 n, .int .u8 c.toNat, .pointer (some ⟨b, 0, none⟩)] w fun e w' => e = .returned (.tuple #[]) ∧ w' = w.setCell ⟨b, 0, none⟩ (.int .i64 ((a : Int) + n)) := by
  go_enter Tryz.func177, Tryz.ntmps177
  go_wp2
  go_end0
  exact ⟨rfl, rfl⟩

/-- The error of a pressed text. -/
def errR : Option Nat → Er
  | none => Er.nil
  | some p => Er.fault p 1

/-- What Size tells. -/
def sizeR (r : List (Nat × UInt8) × Option Nat) : Nat := match r.2 with
  | none => sumR r.1
  | some _ => 0
theorem sizeR_none {r : List (Nat × UInt8) × Option Nat} (h : r.2 = none) : sizeR r = sumR r.1 := by unfold sizeR; rw [h]
theorem sizeR_some {r : List (Nat × UInt8) × Option Nat} {p : Nat} (h : r.2 = some p) : sizeR r = 0 := by unfold sizeR; rw [h]

def SizeInv (w : World) (acc : List (Nat × UInt8)) (W : World) : Prop :=
  W.heap[w.heap.size]? = some (.cells #[.int .i64 (sumR acc : Nat)] 3 (0, 0)) ∧ Below w.heap.size w W

set_option maxRecDepth 100000 in
theorem size_any {E : Nat → Addr} (s : ByteArray) (w : World) (hs : s.size ≤ 1073741824) (hE : Env E w) :
    Calls Tryz.prog 156 #[.string s] w fun e w' => ∃ v, e = .returned (.tuple #[.int .i64 (sizeR (runsL (bl s)) : Nat), v]) ∧ IsErr E w' v (errR (runsL (bl s)).2) ∧ Below w.heap.size w w' := by
  have eg : ∀ args w, (callFunc 177 args).run Tryz.prog w = .ok (.enter 177 args) w := enters_of Tryz.func177 (by kernel_rfl) rfl
  have hsum := runs_sum (bl s)
  rw [bl_length] at hsum
  have hEach := each_any (E := E) s (w.alloc (.cells #[.int .i64 0] 3)) hs 177 #[.pointer (some ⟨w.heap.size, 0, none⟩)] (SizeInv w) eg
    (fun acc n c W hI hn hrest => by
      obtain ⟨rest, hr⟩ := hrest
      obtain ⟨hc, hb⟩ := hI
      have hle : sumR acc + n ≤ 9223372036854775807 := by
        rw [← hr, sumR_append, sumR_cons] at hsum
        simp only at hsum
        omega
      refine (size1_any n c w.heap.size (sumR acc) W hle (by simp [World.cell?, hc]) (by simp [World.frozen?, hc])).mono ?_
      rintro e W' ⟨rfl, rfl⟩
      refine ⟨rfl, ?_, hb.setCell (Nat.le_refl _) _⟩
      rw [sumR_append, one_setCell hc]
      simp [sumR])
    (fun acc W hI => by rw [hI.2.cell (p := ⟨6, 0, none⟩) (lt_of_cell hE.eText)]; exact hE.eText)
    ⟨heap_alloc_new w _, (Below.refl _ _).alloc (Nat.le_refl _) _⟩
  have H := Lib.hid hEach
  clear hEach
  go_enter Tryz.func156, Tryz.ntmps156
  go_wp2_with fail
  refine H.out.mono ?_
  intro e w1 hend
  cases hr : (runsL (bl s)).2 with
  | none =>
    unfold EachEnd at hend
    rw [hr] at hend
    obtain ⟨rfl, hI1, hI2⟩ := hend
    have hc : w1.cell? ⟨w.heap.size, 0, none⟩ = some (.int .i64 (sumR (runsL (bl s)).1 : Nat)) := by simp [World.cell?, hI1]
    have HR := Lib.hid hr
    clear hr H
    go_wp2_with fail
    go_ret2
    rw [HR.out, sizeR_none HR.out]
    exact ⟨_, rfl, IsErr.nil _ _, hI2⟩
  | some p =>
    unfold EachEnd at hend
    rw [hr] at hend
    obtain ⟨W, ⟨hI1, hI2⟩, rfl, rfl⟩ := hend
    have hb : Below w.heap.size w (W.alloc (.cells #[.int .i64 p, sentV E 0] 137)) := hI2.alloc hI2.size _
    have hV : IsErr E (W.alloc (.cells #[.int .i64 p, sentV E 0] 137)) (.iface 134 (.pointer (some ⟨W.heap.size, 0, none⟩))) (Er.fault p 1) :=
      IsErr.fault E _ 0 (by decide) p W.heap.size (by rw [World.cell?_alloc_at _ _ _ _ rfl]; rfl) (by rw [World.cell?_alloc_at _ _ _ _ rfl]; rfl)
    have HR := Lib.hid hr
    clear hr H
    go_wp2_with fail
    go_ret2
    rw [HR.out, sizeR_some HR.out]
    exact ⟨_, rfl, hV, hb⟩
end Go.Proofs.YtomceddfbfpjjaaGreatDoor

namespace Go.Proofs.YtomceddfbfpjjaaGreatDoor
open Go Go.RowKit

theorem open1_any (n : Nat) (c : UInt8) (B b : Nat) (acc : List UInt8) (w : World) (hn : n < 1000000000) (hlen : acc.length + n ≤ 140737488355328) (hB : IsB B b (Lib.byteCells acc) w) (hBw : B ≤ w.heap.size) :
    Calls Tryz.prog 158 #[.int .i64 n, .int .u8 c.toNat, .pointer (some ⟨b, 0, none⟩)] w fun e w' => e = .returned (.tuple #[]) ∧ IsB B b (Lib.byteCells (acc ++ List.replicate n c)) w' ∧ Below B w w' := by
  go_enter Tryz.func158, Tryz.ntmps158
  go_wp2_with fail
  go_loopw [6] (fun i wr => ∃ j : Nat, j ≤ n ∧ i = .int .i64 j ∧ IsB B b (Lib.byteCells (acc ++ List.replicate j c)) wr ∧ Below B w wr) (fun i _ => n - (intOf i).toNat)
  case atStart => exact ⟨0, Nat.zero_le _, rfl, by simpa using hB, Below.refl _ _⟩
  case round =>
    obtain ⟨j, hj, rfl, hBj, hb⟩ := hrel
    by_cases hlt : j < n
    · go_wp2_with fail
      refine (writeByte_any B b _ c.toNat _ hBj (by rw [Lib.byteCells_length, List.length_append, List.length_replicate]; omega) (by have := hb.size; omega)).mono ?_
      rintro e w2 ⟨rfl, hB2, hb2⟩
      have hB3 : IsB B b (Lib.byteCells (acc ++ List.replicate (j + 1) c)) w2 := by
        rw [List.replicate_succ', ← List.append_assoc, byteCells_append]; exact .inr hB2
      have hb3 := hb.trans hb2
      clear hB2 hb2 hBj hb
      go_wp2_with fail
      go_roundw
      case rel => exact ⟨j + 1, by omega, by go_num, hB3, hb3⟩
      case measure => simp [intOf]; omega
    · obtain rfl : j = n := by omega
      go_wp2_with fail
      go_end0
      exact ⟨rfl, hBj, hb⟩

def OpenInv (w : World) (acc : List (Nat × UInt8)) (W : World) : Prop :=
  IsB w.heap.size w.heap.size (Lib.byteCells (openR acc)) W ∧ Below w.heap.size w W

set_option maxHeartbeats 1000000 in
set_option maxRecDepth 100000 in
theorem open_any {E : Nat → Addr} (s : ByteArray) (most : Int) (w : World) (hs : s.size ≤ 1073741824) (hm : most ≤ 1099511627776) (hE : Env E w) :
    Calls Tryz.prog 129 #[.string s, .int .i64 most] w fun e w' => ∃ t v, e = .returned (.tuple #[.string t, v]) ∧ Hid (bl t = openT (runsL (bl s)) most) ∧ IsErr E w' v (openE (runsL (bl s)) most) ∧ Below w.heap.size w w' := by
  have eg : ∀ args w, (callFunc 158 args).run Tryz.prog w = .ok (.enter 158 args) w := enters_of Tryz.func158 (by kernel_rfl) rfl
  have EG := Lib.hid eg
  clear eg
  go_enter Tryz.func129, Tryz.ntmps129
  go_wp2_with fail
  refine (size_any s w hs hE).mono ?_
  rintro e w1 ⟨v, rfl, hv, hb1⟩
  cases hr : (runsL (bl s)).2 with
  | some p =>
    have hv' := hv
    rw [hr] at hv'
    obtain ⟨b, _, hvb, _, _⟩ := hv'.fault_inv
    subst hvb
    have HT := Lib.hid (open_some hr most)
    have HV : IsErr E w1 _ (Er.fault p 1) := hv'
    clear hv hv' hr
    go_wp2_with fail
    go_ret2
    rw [HT.out.1, HT.out.2]
    exact ⟨⟨#[]⟩, _, rfl, rfl, HV, hb1⟩
  | none =>
    rw [hr] at hv
    have hvn := hv.nil_inv
    subst hvn
    have hsz := sizeR_none hr
    rw [hsz]
    have hE1 := hE.ext hb1
    clear hv hsz
    by_cases hmm : most < (sumR (runsL (bl s)).1 : Int)
    · have HT := Lib.hid (open_much hr hmm)
      have e7 := hE1.eFull
      clear hr
      go_wp2_with fail
      go_quiet (fail)
      go_wp2_with fail
      go_ret2
      rw [HT.out.1, HT.out.2]
      exact ⟨⟨#[]⟩, _, rfl, rfl, IsErr.base E _ 7 (by decide), hb1.trans (below_drewN _ _ _)⟩
    · have HT := Lib.hid (open_fine hr hmm)
      have hEach := each_any (E := E) s (w1.alloc (.cells #[.pointer none, .slice none 0 0] 152)) hs 158 #[.pointer (some ⟨w1.heap.size, 0, none⟩)] (OpenInv w1) EG.out
        (fun acc n c W hI hn hrest => by
          obtain ⟨rest, hrr⟩ := hrest
          obtain ⟨hB, hb⟩ := hI
          refine (open1_any n c _ _ _ W hn ?_ hB hb.size).mono ?_
          · rw [openR_length]
            rw [← hrr, sumR_append, sumR_cons] at hmm
            simp only at hmm
            omega
          · rintro e W' ⟨rfl, hB', hb'⟩
            refine ⟨rfl, ?_, hb.trans hb'⟩
            rw [openR_append]
            simpa [openR] using hB')
        (fun acc W hI => by rw [hI.2.cell (p := ⟨6, 0, none⟩) (lt_of_cell hE1.eText)]; exact hE1.eText)
        ⟨isB_new w1 _ (Nat.le_refl _), (Below.refl _ _).alloc (Nat.le_refl _) _⟩
      have H := Lib.hid hEach
      have HR := Lib.hid hr
      clear hEach hr
      go_wp2_with fail
      refine H.out.mono ?_
      intro e w2 hend
      unfold EachEnd at hend
      rw [HR.out] at hend
      obtain ⟨rfl, hB2, hb2⟩ := hend
      clear H
      go_wp2_with fail
      refine (Tryz.Builder_String_any _ _ _ _ hB2 hb2.size).mono ?_
      rintro e w3 ⟨rfl, hb3⟩
      have hfin : Below w.heap.size w w3 := hb1.trans ((hb2.trans hb3).mono hb1.size)
      clear hB2 hb2 hb3
      go_wp2_with fail
      go_ret2
      rw [HT.out.1, HT.out.2]
      exact ⟨_, _, rfl, rfl, IsErr.nil _ _, hfin⟩
end Go.Proofs.YtomceddfbfpjjaaGreatDoor

namespace Go.Proofs.YtomceddfbfpjjaaGreatDoor
open Go Go.RowKit

abbrev encRun (r : Nat × UInt8) : List Value := [.int .i64 r.1, .int .u8 r.2.toNat]

/-- A fault of the references': its number, its place. -/
abbrev faultV (c a : Int) : Value := .agg #[.int .i64 c, .int .i64 a]

theorem two_setCell {w : World} {b : Nat} {u0 u1 : Value} {t : TypeId} (h : w.heap[b]? = some (.cells #[u0, u1] t (0, 0))) (x y : Value) :
    ((w.setCell ⟨b, 0, none⟩ x).setCell ⟨b, 1, none⟩ y).heap[b]? = some (.cells #[x, y] t (0, 0)) := by
  simp [World.setCell, Array.getElem?_modify, h]

/-- What RunsOf tells: the runs (none where it is wrong), and a fault. -/
def rlist (r : List (Nat × UInt8) × Option Nat) : List (Nat × UInt8) := match r.2 with
  | none => r.1
  | some _ => []
def rcode (r : List (Nat × UInt8) × Option Nat) : Int := match r.2 with
  | none => 0
  | some _ => 1
def rat (r : List (Nat × UInt8) × Option Nat) : Int := match r.2 with
  | none => -1
  | some p => p
theorem r_some {r : List (Nat × UInt8) × Option Nat} {acc : List (Nat × UInt8)} {p : Nat} (h : r = (acc, some p)) : rlist r = [] ∧ rcode r = 1 ∧ rat r = p := by subst h; exact ⟨rfl, rfl, rfl⟩
theorem r_none {r : List (Nat × UInt8) × Option Nat} {acc : List (Nat × UInt8)} (h : r = (acc, none)) : rlist r = acc ∧ rcode r = 0 ∧ rat r = -1 := by subst h; exact ⟨rfl, rfl, rfl⟩

def RunsEnd (w : World) (r : List (Nat × UInt8) × Option Nat) (e : Ending) (w' : World) : Prop :=
  ∃ v, e = .returned (.tuple #[v, faultV (rcode r) (rat r)]) ∧ Row encRun 2 w' v (rlist r) ∧ Below w.heap.size w w'
theorem RunsEnd.bad {w w' : World} {r : List (Nat × UInt8) × Option Nat} {acc : List (Nat × UInt8)} {p : Nat} (h : r = (acc, some p)) (q : Int) (hq : q = p) (hb : Below w.heap.size w w') :
    RunsEnd w r (.returned (.tuple #[.slice none 0 0, faultV 1 q])) w' := by
  obtain ⟨h1, h2, h3⟩ := r_some h
  exact ⟨_, by rw [h2, h3, hq], by rw [h1]; exact Row.nil _ _ _, hb⟩
theorem RunsEnd.good {w w' : World} {r : List (Nat × UInt8) × Option Nat} {acc : List (Nat × UInt8)} {v : Value} (h : r = (acc, none)) (hr : Row encRun 2 w' v acc) (hb : Below w.heap.size w w') :
    RunsEnd w r (.returned (.tuple #[v, faultV 0 (-1)])) w' := by
  obtain ⟨h1, h2, h3⟩ := r_none h
  exact ⟨_, by rw [h2, h3], by rw [h1]; exact hr, hb⟩

theorem fine_any (w : World) : Calls Tryz.prog 98 #[] w fun e w' => e = .returned (faultV 0 (-1)) ∧ Below w.heap.size w w' := by
  go_enter Tryz.func98, Tryz.ntmps98
  go_wp2
  refine bodyPost_ret (v := faultV 0 (-1)) (by simp [results, Tryz.results98, go_sem]) rfl ⟨rfl, (Below.refl _ _).alloc (Nat.le_refl _) _⟩

theorem PP.end_p {s : ByteArray} {i p : Nat} {acc : List (Nat × UInt8)} (h : PP s i acc) (hi : i < s.size) (hip : i ≤ p) (hk : (numGo ((bl s).drop i) 0 0).2 = p - i) (h0 : p ≠ i) (he : p = s.size) : runsL (bl s) = (acc, some p) := by
  obtain ⟨k, rfl⟩ : ∃ k, p = i + k := ⟨p - i, by omega⟩
  exact h.fail fun f => parse_end hi (by rw [hk]; omega) (by omega) he
theorem PP.sign_p {s : ByteArray} {i p : Nat} {acc : List (Nat × UInt8)} (h : PP s i acc) (hi : i < s.size) (hip : i ≤ p) (hk : (numGo ((bl s).drop i) 0 0).2 = p - i) (h0 : p ≠ i) (he : p < s.size) (hc : s[p] ≠ 58) : runsL (bl s) = (acc, some p) := by
  obtain ⟨k, rfl⟩ : ∃ k, p = i + k := ⟨p - i, by omega⟩
  exact h.fail fun f => parse_sign hi (by rw [hk]; omega) (by omega) he hc
theorem PP.last_p {s : ByteArray} {i p : Nat} {acc : List (Nat × UInt8)} (h : PP s i acc) (hi : i < s.size) (hip : i ≤ p) (hk : (numGo ((bl s).drop i) 0 0).2 = p - i) (h0 : p ≠ i) (he : p < s.size) (hc : s[p] = 58) (hl : p + 1 = s.size) : runsL (bl s) = (acc, some (p + 1)) := by
  obtain ⟨k, rfl⟩ : ∃ k, p = i + k := ⟨p - i, by omega⟩
  exact h.fail fun f => parse_last hi (by rw [hk]; omega) (by omega) he hc hl
theorem PP.step_p {s : ByteArray} {i p m : Nat} {acc : List (Nat × UInt8)} (h : PP s i acc) (hi : i < s.size) (hip : i ≤ p) (hk : numGo ((bl s).drop i) 0 0 = (m, p - i)) (h0 : p ≠ i) (he : p + 1 < s.size) (hc : s[p] = 58) :
    PP s (p + 2) (acc ++ [(m, s[p + 1])]) := by
  obtain ⟨k, rfl⟩ : ∃ k, p = i + k := ⟨p - i, by omega⟩
  have := h.step hi (k := k) (by rw [hk]; simp) (by omega) he hc
  rw [hk] at this; exact this

theorem numGo_at (s : ByteArray) (p j m : Nat) (h : p < s.size) : numGo ((bl s).drop p) j m =
    if j < 9 ∧ 48 ≤ s[p].toNat ∧ s[p].toNat ≤ 57 ∧ (0 < j ∨ s[p].toNat ≠ 48) then numGo ((bl s).drop (p + 1)) (j + 1) (10 * m + (s[p].toNat - 48)) else (m, j) := by
  rw [drop_cons s p h]; rfl
theorem numGo_out (s : ByteArray) (p j m : Nat) (h : ¬ p < s.size) : numGo ((bl s).drop p) j m = (m, j) := by
  rw [drop_nil s p (by omega)]; rfl

theorem Tryz.infoRun : (Tryz.prog.info? 205).map (fun i => (i.zero, i.size, i.bytes)) = some (some (.agg #[.int .i64 0, .int .u8 0]), 2, 16) := by kernel_rfl

set_option maxHeartbeats 2000000 in
set_option maxRecDepth 100000 in
theorem runsOf_any (s : ByteArray) (w : World) (hs : s.size ≤ 1073741824) :
    Calls Tryz.prog 131 #[.string s] w (RunsEnd w (runsL (bl s))) := by
  obtain ⟨i0, hi0, hz0, hz1, hz2⟩ := info_parts Tryz.infoRun
  go_enter Tryz.func131, Tryz.ntmps131
  go_wp2_with fail
  go_loopw [4, 5] (fun v i wr => ∃ (k : Nat) (acc : List (Nat × UInt8)), k ≤ s.size ∧ i = .int .i64 k ∧ acc.length ≤ k ∧ Hid (PP s k acc) ∧
      wr.ownsRow (w.heap.size + 1) 205 2 v acc.length (acc.flatMap encRun) ∧ wr.heap[w.heap.size]? = some (.cells #[.int .i64 0, .int .i64 0] 50 (0, 0)) ∧ Below w.heap.size w wr) (fun _ i _ => s.size - (intOf i).toNat)
  case atStart => exact ⟨0, [], Nat.zero_le _, rfl, Nat.zero_le _, PP.start s, World.ownsRow_nil _ _ _ _, heap_alloc_new w _, (Below.refl _ _).alloc (Nat.le_refl _) _⟩
  case round =>
    obtain ⟨i, acc, hi, rfl, hacc, HP, hown, hb0, hb⟩ := hrel
    by_cases hlt : i < s.size
    · go_upto_block 2 with fail
      go_cut [6, 7] (fun n7 p7 wx => wx = wr ∧ ∃ p m : Nat, i ≤ p ∧ p ≤ s.size ∧ p ≤ i + 9 ∧ m < 1000000000 ∧ n7 = .int .i64 m ∧ p7 = .int .i64 p ∧ Hid (numGo ((bl s).drop i) 0 0 = (m, p - i)))
      case first =>
        clear HP hown hb0 hb
        go_wp2_with fail
        go_loop [6, 7] (fun n7 p7 => ∃ p m : Nat, i ≤ p ∧ p ≤ s.size ∧ p ≤ i + 9 ∧ m < 10 ^ (p - i) ∧ n7 = .int .i64 m ∧ p7 = .int .i64 p ∧ Hid (numGo ((bl s).drop p) (p - i) m = numGo ((bl s).drop i) 0 0)) (fun _ p7 => s.size - (intOf p7).toNat)
        case atStart => exact ⟨i, 0, Nat.le_refl _, by omega, by omega, by simp, rfl, rfl, by simp [Hid]⟩
        case round =>
          obtain ⟨p, m, hip, hps, hp9, hm, rfl, rfl, HN⟩ := hrel
          have hpw : 10 ^ (p - i) ≤ 10 ^ 9 := Nat.pow_le_pow_right (by decide) (by omega)
          have hm9 : m < 1000000000 := Nat.lt_of_lt_of_le hm hpw
          have HM := Lib.hid hm
          clear hpw hm
          by_cases hp : p < s.size
          · by_cases h9 : p < i + 9
            · by_cases hgood : 48 ≤ s[p].toNat ∧ s[p].toNat ≤ 57 ∧ (i < p ∨ s[p].toNat ≠ 48)
              · obtain ⟨g1, g2, g3⟩ := hgood
                have HF : Hid (numGo ((bl s).drop (p + 1)) (p + 1 - i) (10 * m + (s[p].toNat - 48)) = numGo ((bl s).drop i) 0 0) := by
                  show _ = _
                  rw [← HN.out, numGo_at s p _ m hp, if_pos ⟨by omega, g1, g2, by omega⟩, show p - i + 1 = p + 1 - i by omega]
                have HM2 : Hid (10 * m + (s[p].toNat - 48) < 10 ^ (p + 1 - i)) := by
                  show _ < _
                  have := HM.out
                  rw [show p + 1 - i = (p - i) + 1 by omega, Nat.pow_succ]; omega
                have g1' : 48 ≤ (s[p].toNat : Int) := by omega
                have g2' : (s[p].toNat : Int) ≤ 57 := by omega
                clear HN HM g1 g2
                by_cases hpi : p = i
                · subst hpi
                  have b1 : ((s[p].toNat : Int) == 48) = false := by simp; omega
                  clear g3
                  go_wp2_with fail
                  go_round
                  case rel => exact ⟨p + 1, 10 * m + (s[p].toNat - 48), by omega, by omega, by omega, HM2.out, by go_num, by go_num, HF⟩
                  case measure => simp [intOf]; omega
                · have b1 : ((p : Int) == i) = false := by simp; omega
                  clear g3
                  go_wp2_with fail
                  go_round
                  case rel => exact ⟨p + 1, 10 * m + (s[p].toNat - 48), by omega, by omega, by omega, HM2.out, by go_num, by go_num, HF⟩
                  case measure => simp [intOf]; omega
              · have HF : Hid (numGo ((bl s).drop i) 0 0 = (m, p - i)) := by
                  show _ = _
                  rw [← HN.out, numGo_at s p _ m hp, if_neg (by omega)]
                clear HN HM
                by_cases g1 : s[p].toNat < 48
                · have g1' : (s[p].toNat : Int) < 48 := by omega
                  clear hgood g1
                  go_wp2_with fail
                  go_meet
                  exact ⟨rfl, p, m, hip, hps, hp9, hm9, rfl, rfl, HF⟩
                · have g1' : 48 ≤ (s[p].toNat : Int) := by omega
                  by_cases g2 : 57 < s[p].toNat
                  · have g2' : 57 < (s[p].toNat : Int) := by omega
                    clear hgood g1 g2
                    go_wp2_with fail
                    go_meet
                    exact ⟨rfl, p, m, hip, hps, hp9, hm9, rfl, rfl, HF⟩
                  · have g2' : (s[p].toNat : Int) ≤ 57 := by omega
                    have hpi : p = i := by omega
                    have hc8 : s[p].toNat = 48 := by omega
                    have b2 : ((s[p].toNat : Int) == 48) = true := by simp; omega
                    subst hpi
                    clear hgood g1 g2 hc8
                    go_wp2_with fail
                    go_meet
                    exact ⟨rfl, p, m, hip, hps, hp9, hm9, rfl, rfl, HF⟩
            · have HF : Hid (numGo ((bl s).drop i) 0 0 = (m, p - i)) := by
                show _ = _
                rw [← HN.out, numGo_at s p _ m hp, if_neg (by omega)]
              clear HN
              go_wp2_with fail
              go_meet
              exact ⟨rfl, p, m, hip, hps, hp9, hm9, rfl, rfl, HF⟩
          · have HF : Hid (numGo ((bl s).drop i) 0 0 = (m, p - i)) := by
              show _ = _
              rw [← HN.out, numGo_out s p _ m hp]
            clear HN
            go_wp2_with fail
            go_meet
            exact ⟨rfl, p, m, hip, hps, hp9, hm9, rfl, rfl, HF⟩
      case rest =>
        obtain ⟨rfl, p, m, hip, hps, hp9, hm9, rfl, rfl, HN⟩ := hcut
        have HK : Hid ((numGo ((bl s).drop i) 0 0).2 = p - i) := by show _ = _; rw [HN.out]
        have hbl : w.heap.size < wc.heap.size := (Array.getElem?_eq_some_iff.1 hb0).1
        have c0 : wc.cell? ⟨w.heap.size, 0, none⟩ = some (.int .i64 0) := by simp [World.cell?, hb0]
        have c1 : wc.cell? ⟨w.heap.size, 1, none⟩ = some (.int .i64 0) := by simp [World.cell?, hb0]
        have f0 : wc.frozen? ⟨w.heap.size, 0, none⟩ = false := by simp [World.frozen?, hb0]
        have f1 : wc.frozen? ⟨w.heap.size, 1, none⟩ = false := by simp [World.frozen?, hb0]
        by_cases hpi : p = i
        · subst hpi
          have HF : Hid (runsL (bl s) = (acc, some p)) := HP.out.fail fun f => parse_none hlt (by rw [HK.out]; omega)
          clear HP HN HK hown
          go_wp2_with fail
          have h2 := two_setCell hb0 (.int .i64 1) (.int .i64 (p : Int))
          have hB2 : Below w.heap.size w ((wc.setCell ⟨w.heap.size, 0, none⟩ (.int .i64 1)).setCell ⟨w.heap.size, 1, none⟩ (.int .i64 (p : Int))) := (hb.setCell (p := ⟨w.heap.size, 0, none⟩) (Nat.le_refl _) _).setCell (p := ⟨w.heap.size, 1, none⟩) (Nat.le_refl _) _
          generalize (wc.setCell ⟨w.heap.size, 0, none⟩ (.int .i64 1)).setCell ⟨w.heap.size, 1, none⟩ (.int .i64 (p : Int)) = W1 at h2 hB2 ⊢
          have d0 : W1.cell? ⟨w.heap.size, 0, none⟩ = some (.int .i64 1) := by simp [World.cell?, h2]
          have d1 : W1.cell? ⟨w.heap.size, 1, none⟩ = some (.int .i64 (p : Int)) := by simp [World.cell?, h2]
          exact bodyPost_ret (v := .tuple #[.slice none 0 0, faultV 1 (p : Int)]) (by simp [results, Tryz.results131, go_sem, d0, d1]) rfl (RunsEnd.bad HF.out _ (by omega) hB2)
        · have b1 : ((p : Int) == i) = false := by simp; omega
          by_cases hend : p = s.size
          · have HF : Hid (runsL (bl s) = (acc, some p)) := HP.out.end_p hlt hip HK.out hpi hend
            have b2 : ((p : Int) == s.size) = true := by simp; omega
            clear HP HN HK hown hend hpi
            go_wp2_with fail
            have h2 := two_setCell hb0 (.int .i64 1) (.int .i64 (p : Int))
            have hB2 : Below w.heap.size w ((wc.setCell ⟨w.heap.size, 0, none⟩ (.int .i64 1)).setCell ⟨w.heap.size, 1, none⟩ (.int .i64 (p : Int))) := (hb.setCell (p := ⟨w.heap.size, 0, none⟩) (Nat.le_refl _) _).setCell (p := ⟨w.heap.size, 1, none⟩) (Nat.le_refl _) _
            generalize (wc.setCell ⟨w.heap.size, 0, none⟩ (.int .i64 1)).setCell ⟨w.heap.size, 1, none⟩ (.int .i64 (p : Int)) = W1 at h2 hB2 ⊢
            have d0 : W1.cell? ⟨w.heap.size, 0, none⟩ = some (.int .i64 1) := by simp [World.cell?, h2]
            have d1 : W1.cell? ⟨w.heap.size, 1, none⟩ = some (.int .i64 (p : Int)) := by simp [World.cell?, h2]
            exact bodyPost_ret (v := .tuple #[.slice none 0 0, faultV 1 (p : Int)]) (by simp [results, Tryz.results131, go_sem, d0, d1]) rfl (RunsEnd.bad HF.out _ (by omega) hB2)
          · have b2 : ((p : Int) == s.size) = false := by simp; omega
            have hp : p < s.size := by omega
            by_cases hc : s[p] = 58
            · have b3 : ((s[p].toNat : Int) != 58) = false := by rw [hc]; rfl
              by_cases hl : p + 1 = s.size
              · have HF : Hid (runsL (bl s) = (acc, some (p + 1))) := HP.out.last_p hlt hip HK.out hpi hp hc hl
                have b4 : ((p : Int) + 1 == s.size) = true := by simp; omega
                clear HP HN HK hown hend hpi hc hl
                go_wp2_with fail
                have h2 := two_setCell hb0 (.int .i64 1) (.int .i64 ((p : Int) + 1))
                have hB2 : Below w.heap.size w ((wc.setCell ⟨w.heap.size, 0, none⟩ (.int .i64 1)).setCell ⟨w.heap.size, 1, none⟩ (.int .i64 ((p : Int) + 1))) := (hb.setCell (p := ⟨w.heap.size, 0, none⟩) (Nat.le_refl _) _).setCell (p := ⟨w.heap.size, 1, none⟩) (Nat.le_refl _) _
                generalize (wc.setCell ⟨w.heap.size, 0, none⟩ (.int .i64 1)).setCell ⟨w.heap.size, 1, none⟩ (.int .i64 ((p : Int) + 1)) = W1 at h2 hB2 ⊢
                have d0 : W1.cell? ⟨w.heap.size, 0, none⟩ = some (.int .i64 1) := by simp [World.cell?, h2]
                have d1 : W1.cell? ⟨w.heap.size, 1, none⟩ = some (.int .i64 ((p : Int) + 1)) := by simp [World.cell?, h2]
                exact bodyPost_ret (v := .tuple #[.slice none 0 0, faultV 1 ((p : Int) + 1)]) (by simp [results, Tryz.results131, go_sem, d0, d1]) rfl (RunsEnd.bad HF.out _ (by omega) hB2)
              · have hl2 : p + 1 < s.size := by omega
                have b4 : ((p : Int) + 1 == s.size) = false := by simp; omega
                have HS : Hid (PP s (p + 2) (acc ++ [(m, s[p + 1])])) := HP.out.step_p hlt hip HN.out hpi hl2 hc
                have e4 : ∀ W : World, (Instr.index 9 (.string s) (.int .i64 ((p : Int) + 1))).run Tryz.prog W = .ok (.int .u8 s[p + 1].toNat) W := index_nat s _ (p + 1) hl2 (by omega)
                have HOWN := Lib.hid hown
                clear HP HN HK hend hpi hc hl c0 c1 f0 f1 hown
                go_wp2_with (at_builtin; refine wpList_append_own _ rfl _ _ 200 rfl (w.heap.size + 1) 205 i0 (.agg #[.int .i64 0, .int .u8 0]) 2 16 Tryz.underlying200 hi0 hz0 hz1 hz2 rfl (by decide) _ _ _ rfl (HOWN.out.alloc _) ⟨wc.heap.size, 0, none⟩ 1 1 (encRun (m, s[p + 1])) rfl rfl ?c1 ?c2 ?c3 ?c4 ?c5 ?_)
                case c1 =>
                  intro j u hj
                  match j, hj with
                  | 0, hj => simp at hj; subst hj; simp [Addr.add]
                  | 1, hj => simp at hj; subst hj; simp [Addr.add]
                case c2 => intro u hu; simp at hu; rcases hu with rfl | rfl <;> rfl
                case c3 => rw [maxLen_eq]; omega
                case c4 => omega
                case c5 => simp; omega
                intro v' w2 hown' hgrow _
                have hown2 : w2.ownsRow (w.heap.size + 1) 205 2 v' (acc ++ [(m, s[p + 1])]).length ((acc ++ [(m, s[p + 1])]).flatMap encRun) := by
                  simpa using hown'
                have hlb : w.heap.size < wc.heap.size := hbl
                have hrow : ∀ q, u4.ownBlock = some q → w.heap.size + 1 ≤ q := fun q hq => (HOWN.out.lt q hq).1
                have hb02 : w2.heap[w.heap.size]? = some (.cells #[.int .i64 0, .int .i64 0] 50 (0, 0)) := by
                  rw [hgrow.block w.heap.size (by simp; omega) (fun e => by have := hrow _ e.symm; omega), Below.heap_alloc _ _ _ hbl]
                  exact hb0
                have hbb : Below w.heap.size w w2 := (hb.alloc hb.size _).grown hgrow (by simp; omega) (fun q hq => by have := hrow q hq; omega)
                clear hown' hgrow HOWN hrow e4
                go_wp2_with fail
                go_roundw
                case rel => exact ⟨p + 2, acc ++ [(m, s[p + 1])], by omega, by go_num, by simp; omega, HS, hown2, hb02, hbb⟩
                case measure => simp [intOf]; omega
            · have HF : Hid (runsL (bl s) = (acc, some p)) := HP.out.sign_p hlt hip HK.out hpi hp hc
              have b3 : ((s[p].toNat : Int) != 58) = true := by
                rw [bne_iff_ne]; intro h; exact hc (UInt8.toNat_inj.1 (by show _ = 58; omega))
              clear HP HN HK hown hend hpi hc
              go_wp2_with fail
              have h2 := two_setCell hb0 (.int .i64 1) (.int .i64 (p : Int))
              have hB2 : Below w.heap.size w ((wc.setCell ⟨w.heap.size, 0, none⟩ (.int .i64 1)).setCell ⟨w.heap.size, 1, none⟩ (.int .i64 (p : Int))) := (hb.setCell (p := ⟨w.heap.size, 0, none⟩) (Nat.le_refl _) _).setCell (p := ⟨w.heap.size, 1, none⟩) (Nat.le_refl _) _
              generalize (wc.setCell ⟨w.heap.size, 0, none⟩ (.int .i64 1)).setCell ⟨w.heap.size, 1, none⟩ (.int .i64 (p : Int)) = W1 at h2 hB2 ⊢
              have d0 : W1.cell? ⟨w.heap.size, 0, none⟩ = some (.int .i64 1) := by simp [World.cell?, h2]
              have d1 : W1.cell? ⟨w.heap.size, 1, none⟩ = some (.int .i64 (p : Int)) := by simp [World.cell?, h2]
              exact bodyPost_ret (v := .tuple #[.slice none 0 0, faultV 1 (p : Int)]) (by simp [results, Tryz.results131, go_sem, d0, d1]) rfl (RunsEnd.bad HF.out _ (by omega) hB2)
    · have HF : Hid (runsL (bl s) = (acc, none)) := HP.out.done hlt
      have hbl : w.heap.size < wr.heap.size := (Array.getElem?_eq_some_iff.1 hb0).1
      clear HP
      go_wp2_with fail
      refine (fine_any _).mono ?_
      rintro e w2 ⟨rfl, hb2⟩
      have hb02 : w2.heap[w.heap.size]? = some (.cells #[.int .i64 0, .int .i64 0] 50 (0, 0)) := by rw [hb2.block _ hbl]; exact hb0
      have hown2 := owns_below hown hb2
      have hbb : Below w.heap.size w w2 := hb.trans (hb2.mono hb.size)
      have c0 : w2.cell? ⟨w.heap.size, 0, none⟩ = some (.int .i64 0) := by simp [World.cell?, hb02]
      have c1 : w2.cell? ⟨w.heap.size, 1, none⟩ = some (.int .i64 0) := by simp [World.cell?, hb02]
      have f0 : w2.frozen? ⟨w.heap.size, 0, none⟩ = false := by simp [World.frozen?, hb02]
      have f1 : w2.frozen? ⟨w.heap.size, 1, none⟩ = false := by simp [World.frozen?, hb02]
      clear hb2
      go_wp2_with fail
      have h2 := two_setCell hb02 (.int .i64 0) (.int .i64 (-1))
      have hB2 : Below w.heap.size w ((w2.setCell ⟨w.heap.size, 0, none⟩ (.int .i64 0)).setCell ⟨w.heap.size, 1, none⟩ (.int .i64 (-1))) := (hbb.setCell (p := ⟨w.heap.size, 0, none⟩) (Nat.le_refl _) _).setCell (p := ⟨w.heap.size, 1, none⟩) (Nat.le_refl _) _
      have hO2 := ownsRow_setCell_below (ownsRow_setCell_below hown2 (a := ⟨w.heap.size, 0, none⟩) (Nat.lt_succ_self _) (.int .i64 0)) (a := ⟨w.heap.size, 1, none⟩) (Nat.lt_succ_self _) (.int .i64 (-1))
      generalize (w2.setCell ⟨w.heap.size, 0, none⟩ (.int .i64 0)).setCell ⟨w.heap.size, 1, none⟩ (.int .i64 (-1)) = W1 at h2 hB2 hO2 ⊢
      have d0 : W1.cell? ⟨w.heap.size, 0, none⟩ = some (.int .i64 0) := by simp [World.cell?, h2]
      have d1 : W1.cell? ⟨w.heap.size, 1, none⟩ = some (.int .i64 (-1)) := by simp [World.cell?, h2]
      exact bodyPost_ret (v := .tuple #[u4, faultV 0 (-1)]) (by simp [results, Tryz.results131, go_sem, d0, d1]) rfl (RunsEnd.good HF.out (Row.of_owns (enc := encRun) (fun _ => rfl) hO2) hB2)
end Go.Proofs.YtomceddfbfpjjaaGreatDoor

namespace Go.Proofs.YtomceddfbfpjjaaGreatDoor
open Go Go.RowKit

theorem Row.parts2 {w : World} {v : Value} {l : List (Nat × UInt8)} (h : Row encRun 2 w v l) :
    ∃ ao cap, v = .slice ao l.length cap ∧ l.length ≤ cap ∧ cap ≤ maxLen ∧ (∀ i, (hi : i < l.length) → ∃ b off, ao = some ⟨b, off, none⟩ ∧ b < w.heap.size ∧
      ∀ k, (hk : k < l.length) → w.cell? ⟨b, off + k * 2, none⟩ = some (.int .i64 l[k].1) ∧ w.cell? ⟨b, off + k * 2 + 1, none⟩ = some (.int .u8 l[k].2.toNat)) := by
  rcases h with ⟨rfl, rfl⟩ | ⟨b, off, cap, rfl, h1, h2, h3, h4⟩
  · exact ⟨none, 0, rfl, Nat.le_refl _, Nat.zero_le _, fun i hi => absurd hi (Nat.not_lt_zero _)⟩
  · exact ⟨some ⟨b, off, none⟩, cap, rfl, h1, h2, fun i hi => ⟨b, off, rfl, h3, fun k hk => ⟨by simpa using h4 k hk 0 (by decide), by simpa using h4 k hk 1 (by decide)⟩⟩⟩

theorem sumR_take (l : List (Nat × UInt8)) (k : Nat) (h : k < l.length) : sumR (l.take (k + 1)) = sumR (l.take k) + l[k].1 := by
  rw [List.take_succ_eq_append_getElem h, sumR_append]; simp [sumR]
theorem sumR_take_le (l : List (Nat × UInt8)) (k : Nat) : sumR (l.take k) ≤ sumR l := by
  have h : sumR (l.take k ++ l.drop k) = sumR l := by rw [List.take_append_drop]
  rw [sumR_append] at h; omega

set_option maxHeartbeats 400000 in
theorem sizeOf_any {w : World} {v : Value} {l : List (Nat × UInt8)} (hv : Row encRun 2 w v l) (hs : sumR l ≤ 4611686018427387904) :
    Calls Tryz.prog 132 #[v] w fun e w' => e = .returned (.int .i64 (sumR l : Nat)) ∧ Below w.heap.size w w' := by
  obtain ⟨ao, cap, rfl, h1, h2, H3⟩ := hv.parts2
  have hl : l.length ≤ 9223372036854775807 := by rw [maxLen_eq] at h2; omega
  have HM := Lib.hid H3
  clear hv h1 h2 H3
  go_enter Tryz.func132, Tryz.ntmps132
  go_wp2_with fail
  go_loopw [3, 4] (fun n i wr => ∃ k m : Nat, k ≤ l.length ∧ i = .int .i64 k ∧ n = .int .i64 m ∧ Hid (m = sumR (l.take k)) ∧ Below w.heap.size w wr) (fun _ i _ => l.length - (intOf i).toNat)
  case atStart => exact ⟨0, 0, Nat.zero_le _, rfl, rfl, rfl, Below.refl _ _⟩
  case round =>
    obtain ⟨k, m, hk, rfl, rfl, Hm, hb⟩ := hrel
    by_cases hlt : k < l.length
    · obtain ⟨b, off, rfl, hbl, hcell⟩ := HM.out k hlt
      have c := (hcell k hlt).1
      rw [← hb.cell (p := ⟨b, off + k * 2, none⟩) hbl] at c
      have h4 := sumR_take_le l (k + 1)
      have h5 := sumR_take l k hlt
      have h6 : m + l[k].1 ≤ 4611686018427387904 := by have := Hm.out; omega
      have H5 : Hid (m + l[k].1 = sumR (l.take (k + 1))) := by show _ = _; rw [h5, ← Hm.out]
      clear hcell h4 h5 Hm
      generalize hx : l[k].1 = x at c h6 H5
      clear hx
      go_wp2_with fail
      go_roundw
      case rel => exact ⟨k + 1, m + x, by omega, by go_num, by go_num, H5.out, hb⟩
      case measure => simp [intOf]; omega
    · have hf : Hid (m = sumR l) := by
        have := Hm.out
        rw [List.take_of_length_le (by omega)] at this; exact this
      go_wp2_with fail
      go_ret
      have e : m = sumR l := hf.out
      subst e
      exact ⟨rfl, hb⟩

theorem bare_any (c : Int) (w : World) : Calls Tryz.prog 46 #[.int .i64 c] w fun e w' => e = .returned (faultV c (-1)) ∧ Below w.heap.size w w' := by
  go_enter Tryz.func46, Tryz.ntmps46
  go_wp2
  refine bodyPost_ret (v := faultV c (-1)) (by simp [results, Tryz.results46, go_sem]) rfl ⟨rfl, (Below.refl _ _).alloc (Nat.le_refl _) _⟩
end Go.Proofs.YtomceddfbfpjjaaGreatDoor

namespace Go.Proofs.YtomceddfbfpjjaaGreatDoor
open Go Go.RowKit

theorem openR_take (l : List (Nat × UInt8)) (k : Nat) (h : k < l.length) : openR (l.take (k + 1)) = openR (l.take k) ++ List.replicate l[k].1 l[k].2 := by
  rw [List.take_succ_eq_append_getElem h, openR_append]; simp [openR]

def OpenEnd (w : World) (r : List (Nat × UInt8) × Option Nat) (most : Int) (e : Ending) (w' : World) : Prop :=
  ∃ t, e = .returned (.tuple #[.string t, faultV (openE r most).code ((openE r most).at?.getD (-1))]) ∧ Hid (bl t = openT r most) ∧ Below w.heap.size w w'

theorem loaded2 {w : World} {b : Nat} {u v : Value} {t : TypeId} (h : w.heap[b]? = some (.cells #[u, v] t (0, 0))) :
    w.cell? ⟨b, 0, none⟩ = some u ∧ w.cell? ⟨b, 1, none⟩ = some v ∧ w.frozen? ⟨b, 0, none⟩ = false ∧ w.frozen? ⟨b, 1, none⟩ = false := by
  simp [World.cell?, World.frozen?, h]

/-- string(b), b a row of bytes of the call's own. -/
theorem conv_owned {B : Nat} {w : World} {v : Value} {L : List UInt8} (h : w.ownsRow B 5 1 v L.length (Lib.byteCells L)) :
    ∃ t : ByteArray, bl t = L ∧ ∀ w' : World, (∀ q, v.ownBlock = some q → w'.heap[q]? = w.heap[q]?) → (convert 150 9 v).run Tryz.prog w' = .ok (.string t) w' := by
  rcases h.2 with ⟨rfl, h0⟩ | ⟨g, cap, cur, rfl, hb, hg, hn, hc, hsz, ht⟩
  · have hL : L = [] := List.eq_nil_of_length_eq_zero h0
    subst hL
    exact ⟨ByteArray.empty, rfl, fun w' _ => run_convert_bytes_nil w' 150 5 Tryz.underlying150 Tryz.underlying5 0 0 9 Tryz.underlying9⟩
  · refine ⟨strOfNums (L.map fun c => (c.toNat : Int)), ?_, fun w' hw => ?_⟩
    · refine (strOfNums_data _).trans ?_
      rw [List.map_map]
      exact (List.map_congr_left fun c _ => by simp).trans (List.map_id L)
    · refine run_convert_bytes_arg w' 150 5 Tryz.underlying150 Tryz.underlying5 g 0 L.length cap (L.map fun c => (c.toNat : Int)) (by simp) (fun i hi => ?_) 9 Tryz.underlying9
      have h1 := h.cells (g := g) rfl i (.int .u8 (L[i].toNat)) (by simp [Lib.byteCells, hi])
      rw [Addr.add_lit] at h1
      rw [World.cell?_of_block (w := w) (a := ⟨g, 0 + i, none⟩) (hw g rfl), h1]
      simp [hi]

set_option maxHeartbeats 2000000 in
set_option maxRecDepth 100000 in
theorem openOf_any (s : ByteArray) (most : Int) (w : World) (hs : s.size ≤ 1073741824) (hm : most ≤ 1099511627776) :
    Calls Tryz.prog 101 #[.string s, .int .i64 most] w (OpenEnd w (runsL (bl s)) most) := by
  obtain ⟨b0, hb0, hbz0, hbz1, hbz2⟩ := info_parts Tryz.infoByte
  go_enter Tryz.func101, Tryz.ntmps101
  go_wp2_with fail
  refine (runsOf_any s _ hs).mono ?_
  rintro e w1 ⟨v, rfl, hv, hb1⟩
  have hA : w1.heap[w.heap.size]? = some (.cells #[.int .i64 0, .int .i64 0] 50 (0, 0)) := by rw [hb1.block _ (by simp)]; exact heap_alloc_new w _
  have hbw : Below w.heap.size w w1 := ((Below.refl _ _).alloc (Nat.le_refl _) _).trans (hb1.mono (by simp))
  have hz : w.heap.size < w1.heap.size := (Array.getElem?_eq_some_iff.1 hA).1
  clear hb1
  obtain ⟨a0, a1, f0, f1⟩ := loaded2 hA
  cases hr : (runsL (bl s)).2 with
  | some p =>
    obtain ⟨e1, e2, e3⟩ := r_some (show runsL (bl s) = ((runsL (bl s)).1, some p) by rw [← hr])
    rw [e2, e3]
    have HT := Lib.hid (open_some hr most)
    clear hr e1 e2 e3 hv
    go_wp2_with fail
    go_region
    go_wp2_with fail
    have h2 := two_setCell hA (.int .i64 1) (.int .i64 p)
    have hB2 : Below w.heap.size w ((w1.setCell ⟨w.heap.size, 0, none⟩ (.int .i64 1)).setCell ⟨w.heap.size, 1, none⟩ (.int .i64 p)) := (hbw.setCell (p := ⟨w.heap.size, 0, none⟩) (Nat.le_refl _) _).setCell (p := ⟨w.heap.size, 1, none⟩) (Nat.le_refl _) _
    generalize (w1.setCell ⟨w.heap.size, 0, none⟩ (.int .i64 1)).setCell ⟨w.heap.size, 1, none⟩ (.int .i64 p) = W1 at h2 hB2 ⊢
    have hz2 : w.heap.size < W1.heap.size := (Array.getElem?_eq_some_iff.1 h2).1
    obtain ⟨d0, d1, _, _⟩ := loaded2 h2
    refine bodyPost_ret (v := .tuple #[.string ⟨#[]⟩, faultV 1 p]) (by simp [results, Tryz.results101, go_sem, d0, d1, hz2]) rfl ?_
    refine ⟨⟨#[]⟩, ?_, by rw [HT.out.1]; rfl, (hB2.alloc hB2.size _).drew⟩
    rw [HT.out.2]; rfl
  | none =>
    obtain ⟨e1, e2, e3⟩ := r_none (show runsL (bl s) = ((runsL (bl s)).1, none) by rw [← hr])
    rw [e2, e3]
    rw [e1] at hv
    have hsum := runs_sum (bl s)
    rw [bl_length] at hsum
    generalize hl : (runsL (bl s)).1 = l at hv hsum
    clear e1 e2 e3
    by_cases hmm : most < (sumR l : Int)
    · have HT := Lib.hid (open_much hr (show most < (sumR (runsL (bl s)).1 : Int) by rw [hl]; exact hmm))
      clear hr hl
      go_wp2_with fail
      refine (sizeOf_any (hv.ext ((Below.refl _ _).alloc (Nat.le_refl _) _)) (by omega)).mono ?_
      rintro e w2 ⟨rfl, hb2⟩
      have hA2 : w2.heap[w.heap.size]? = some (.cells #[.int .i64 0, .int .i64 0] 50 (0, 0)) := by rw [hb2.block _ (by simp; omega), Below.heap_alloc _ _ _ hz]; exact hA
      have hbw2 : Below w.heap.size w w2 := (hbw.alloc hbw.size _).trans (hb2.mono (by have := hbw.size; simp; omega))
      clear hb2 hv hA a0 a1 f0 f1 hsum
      go_wp2_with fail
      refine (bare_any 8 _).mono ?_
      rintro e w3 ⟨rfl, hb3⟩
      have hz3 : w.heap.size < w2.heap.size := (Array.getElem?_eq_some_iff.1 hA2).1
      have hA3 : w3.heap[w.heap.size]? = some (.cells #[.int .i64 0, .int .i64 0] 50 (0, 0)) := by rw [hb3.block _ hz3]; exact hA2
      have hbw3 : Below w.heap.size w w3 := hbw2.trans (hb3.mono hbw2.size)
      obtain ⟨a0, a1, f0, f1⟩ := loaded2 hA3
      clear hb3
      go_wp2_with fail
      have h2 := two_setCell hA3 (.int .i64 8) (.int .i64 (-1))
      have hB2 : Below w.heap.size w ((w3.setCell ⟨w.heap.size, 0, none⟩ (.int .i64 8)).setCell ⟨w.heap.size, 1, none⟩ (.int .i64 (-1))) := (hbw3.setCell (p := ⟨w.heap.size, 0, none⟩) (Nat.le_refl _) _).setCell (p := ⟨w.heap.size, 1, none⟩) (Nat.le_refl _) _
      generalize (w3.setCell ⟨w.heap.size, 0, none⟩ (.int .i64 8)).setCell ⟨w.heap.size, 1, none⟩ (.int .i64 (-1)) = W1 at h2 hB2 ⊢
      obtain ⟨d0, d1, _, _⟩ := loaded2 h2
      refine bodyPost_ret (v := .tuple #[.string ⟨#[]⟩, faultV 8 (-1)]) (by simp [results, Tryz.results101, go_sem, d0, d1]) rfl ?_
      refine ⟨⟨#[]⟩, ?_, by rw [HT.out.1]; rfl, hB2⟩
      rw [HT.out.2]; rfl
    · have HT := Lib.hid (open_fine hr (show ¬ most < (sumR (runsL (bl s)).1 : Int) by rw [hl]; exact hmm))
      rw [hl] at HT
      clear hr hl
      go_wp2_with fail
      refine (sizeOf_any (hv.ext ((Below.refl _ _).alloc (Nat.le_refl _) _)) (by omega)).mono ?_
      rintro e w2 ⟨rfl, hb2⟩
      have hF : w2.heap[w1.heap.size]? = some (.cells #[.int .i64 0, .int .i64 (-1)] 50 (0, 0)) := by rw [hb2.block _ (by simp)]; exact heap_alloc_new w1 _
      have hA2 : w2.heap[w.heap.size]? = some (.cells #[.int .i64 0, .int .i64 0] 50 (0, 0)) := by rw [hb2.block _ (by simp; omega), Below.heap_alloc _ _ _ hz]; exact hA
      have hbw2 : Below w.heap.size w w2 := (hbw.alloc hbw.size _).trans (hb2.mono (by have := hbw.size; simp; omega))
      have hv2 : Row encRun 2 w2 v l := (hv.ext ((Below.refl _ _).alloc (Nat.le_refl _) (.cells #[.int .i64 0, .int .i64 (-1)] 50))).ext hb2
      obtain ⟨ao, cap, rfl, h1, h2, H3⟩ := hv2.parts2
      have hll : l.length ≤ 9223372036854775807 := by rw [maxLen_eq] at h2; omega
      have HM := Lib.hid H3
      clear hb2 hv hA a0 a1 f0 f1 hsum hv2 h1 h2 H3
      go_wp2_with fail
      go_loopw [8, 9] (fun v i wr => ∃ k : Nat, k ≤ l.length ∧ i = .int .i64 k ∧ wr.ownsRow w2.heap.size 5 1 v (sumR (l.take k)) (Lib.byteCells (openR (l.take k))) ∧ Below w2.heap.size w2 wr) (fun _ i _ => l.length - (intOf i).toNat)
      case atStart => exact ⟨0, Nat.zero_le _, rfl, World.ownsRow_nil _ _ _ _, Below.refl _ _⟩
      case round =>
        obtain ⟨k, hk, rfl, hown, hb⟩ := hrel
        by_cases hlt : k < l.length
        · obtain ⟨b, off, rfl, hbl, hcell⟩ := HM.out k hlt
          have hc0 := (hcell k hlt).1
          have hc1 := (hcell k hlt).2
          have hs1 := sumR_take l k hlt
          have hs2 := sumR_take_le l (k + 1)
          have ho1 := openR_take l k hlt
          obtain ⟨wo, rfl⟩ : ∃ wo : World, wo = wr := ⟨_, rfl⟩
          generalize l[k].1 = n at hc0 hs1 ho1
          generalize l[k].2 = c at hc1 ho1
          have hsn : sumR (l.take k) + n ≤ 1099511627776 := by omega
          have HO := Lib.hid ho1
          have HS := Lib.hid hs1
          have HOW := Lib.hid hown
          clear ho1 hs1 hs2 hcell hown
          go_wp2_with fail
          go_loopw [8, 10] (fun v j wi => ∃ m : Nat, m ≤ n ∧ j = .int .i64 m ∧ wi.ownsRow w2.heap.size 5 1 v (sumR (l.take k) + m) (Lib.byteCells (openR (l.take k) ++ List.replicate m c)) ∧ Below w2.heap.size w2 wi) (fun _ j _ => n - (intOf j).toNat)
          case atStart => exact ⟨0, Nat.zero_le _, rfl, by simpa using HOW.out, hb⟩
          case round =>
            obtain ⟨m, hmn, rfl, howi, hbi⟩ := hrel
            have cc0 : wr.cell? ⟨b, off + k * 2, none⟩ = some (.int .i64 n) := by rw [hbi.cell (p := ⟨b, off + k * 2, none⟩) hbl]; exact hc0
            have cc1 : wr.cell? ⟨b, off + k * 2 + 1, none⟩ = some (.int .u8 c.toNat) := by rw [hbi.cell (p := ⟨b, off + k * 2 + 1, none⟩) hbl]; exact hc1
            clear hc0 hc1
            by_cases hmlt : m < n
            · have HWI := Lib.hid howi
              clear howi
              go_wp2_with (at_builtin; refine wpList_append_own _ rfl _ _ 150 rfl w2.heap.size 5 b0 (.int .u8 0) 1 1 Tryz.underlying150 hb0 hbz0 hbz1 hbz2 rfl (by decide) _ _ _ rfl (HWI.out.alloc _) ⟨wr.heap.size, 0, none⟩ 1 1 [.int .u8 c.toNat] rfl rfl ?c1 ?c2 ?c3 ?c4 ?c5 ?_)
              case c1 =>
                intro j u hj
                match j, hj with
                | 0, hj => simp at hj; subst hj; simp [Addr.add]
              case c2 => intro u hu; simp at hu; subst hu; rfl
              case c3 => rw [maxLen_eq]; omega
              case c4 => omega
              case c5 => have := hbi.size; simp; omega
              intro v' w4 hown' hgrow _
              have hown2 : w4.ownsRow w2.heap.size 5 1 v' (sumR (l.take k) + (m + 1)) (Lib.byteCells (openR (l.take k) ++ List.replicate (m + 1) c)) := by
                rw [List.replicate_succ', ← List.append_assoc, byteCells_append, ← Nat.add_assoc]; exact hown'
              have hbb : Below w2.heap.size w2 w4 := (hbi.alloc hbi.size _).grown hgrow (by have := hbi.size; simp; omega) (fun q hq => (HWI.out.lt q hq).1)
              clear hown' hgrow HWI hbi
              go_wp2_with fail
              go_roundw
              case rel => exact ⟨m + 1, by omega, by go_num, hown2, hbb⟩
              case measure => simp [intOf]; omega
            · obtain rfl : m = n := by omega
              have hown2 : wr.ownsRow w2.heap.size 5 1 u8 (sumR (l.take (k + 1))) (Lib.byteCells (openR (l.take (k + 1)))) := by rw [HS.out, HO.out]; exact howi
              clear howi
              go_wp2_with fail
              go_roundw
              case rel => exact ⟨k + 1, by omega, by go_num, hown2, hbi⟩
              case measure => simp [intOf]; omega
        · have htk : l.take k = l := List.take_of_length_le (by omega)
          rw [htk] at hown
          have hF2 : wr.heap[w1.heap.size]? = some (.cells #[.int .i64 0, .int .i64 (-1)] 50 (0, 0)) := by rw [hb.block _ (Array.getElem?_eq_some_iff.1 hF).1]; exact hF
          have hA3 : wr.heap[w.heap.size]? = some (.cells #[.int .i64 0, .int .i64 0] 50 (0, 0)) := by rw [hb.block _ (Array.getElem?_eq_some_iff.1 hA2).1]; exact hA2
          have hbw3 : Below w.heap.size w wr := hbw2.trans (hb.mono hbw2.size)
          obtain ⟨a0, a1, f0, f1⟩ := loaded2 hA3
          obtain ⟨g0, g1, _, _⟩ := loaded2 hF2
          rw [← openR_length l] at hown
          obtain ⟨tx, htx, hconv⟩ := conv_owned hown
          have hcv := hconv wr.drew (fun _ _ => rfl)
          have HTX := Lib.hid htx
          clear htk hconv htx
          go_wp2_with fail
          go_region
          clear hcv
          go_wp2_with fail
          have h2 := two_setCell hA3 (.int .i64 0) (.int .i64 (-1))
          have hB2 : Below w.heap.size w ((wr.setCell ⟨w.heap.size, 0, none⟩ (.int .i64 0)).setCell ⟨w.heap.size, 1, none⟩ (.int .i64 (-1))) := (hbw3.setCell (p := ⟨w.heap.size, 0, none⟩) (Nat.le_refl _) _).setCell (p := ⟨w.heap.size, 1, none⟩) (Nat.le_refl _) _
          generalize (wr.setCell ⟨w.heap.size, 0, none⟩ (.int .i64 0)).setCell ⟨w.heap.size, 1, none⟩ (.int .i64 (-1)) = W1 at h2 hB2 ⊢
          obtain ⟨d0, d1, _, _⟩ := loaded2 h2
          refine bodyPost_ret (v := .tuple #[.string tx, faultV 0 (-1)]) (by simp [results, Tryz.results101, go_sem, d0, d1]) rfl ?_
          refine ⟨tx, ?_, by rw [HT.out.1]; exact HTX, hB2.drew⟩
          rw [HT.out.2]; rfl
end Go.Proofs.YtomceddfbfpjjaaGreatDoor
