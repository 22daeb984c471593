/- press.each by its contract: whatever it is to do at each run, as an invariant on the runs so far. press.Size by its contract. press.Open by its contract. -/
import Derived.Test.YtomceddfbfpjjaaGreatDoorJPlainly
import Derived.Test.YtomceddfbfpjjaaGreatDoorJParsed
import Derived.Test.YtomceddfbfpjjaaGreatDoorJRowed
import Derived.Test.YtomceddfbfpjjaaGreatDoorJErrors
import Derived.IntWalk
import Derived.OneCell
import Derived.Shelf.Abstract
import Derived.Test.YtomceddfbfpjjaaGreatDoorJTexts
import Derived.Test.YtomceddfbfpjjaaGreatDoorJShelf
import Derived.Deep.QuietTactic
import Derived.BigQuiet
namespace Go.Proofs.YtomceddfbfpjjaaGreatDoor
open Go Go.RowKit

theorem bl_from (s : ByteArray) (i : Nat) : bl (s.extract i s.size) = (bl s).drop i := by
  rw [bl_extract, List.take_of_length_le]
  rw [List.length_drop, bl_length]; omega

theorem number_at (s : ByteArray) (i : Nat) (w : World) (hs : s.size ≤ 1073741824) :
    Calls Tryz.prog 178 #[.string (s.extract i s.size)] w fun e w' => ∃ n k : Nat,
      e = .returned (.tuple #[.int .i64 n, .int .i64 k]) ∧ Hid (numGo ((bl s).drop i) 0 0 = (n, k)) ∧ n < 1000000000 ∧ i + k ≤ max i s.size ∧ w = w' := by
  refine (number_any _ w (by rw [ByteArray.size_extract]; omega)).mono ?_
  rintro e w' ⟨rfl, rfl⟩
  rw [bl_from]
  refine ⟨_, _, rfl, rfl, numGo_lt _, ?_, rfl⟩
  have := numGo_le ((bl s).drop i) 0 0
  rw [List.length_drop, bl_length] at this
  omega

/-- What a call of each ends in. -/
def EachEnd (E : Nat → Addr) (I : List (Nat × UInt8) → World → Prop) (r : List (Nat × UInt8) × Option Nat) (e : Ending) (w' : World) : Prop :=
  match r.2 with
  | none => e = .returned .nilIface ∧ I r.1 w'
  | some p => ∃ W, I r.1 W ∧ e = .returned (.iface 134 (.pointer (some ⟨W.heap.size, 0, none⟩))) ∧ w' = W.alloc (.cells #[.int .i64 p, sentV E 0] 137)

theorem EachEnd.err {E : Nat → Addr} {I : List (Nat × UInt8) → World → Prop} {r : List (Nat × UInt8) × Option Nat} {acc : List (Nat × UInt8)} {p : Nat} {W : World} (h : r = (acc, some p)) (hI : I acc W) (q : Int) (hq : q = p) :
    EachEnd E I r (.returned (.iface 134 (.pointer (some ⟨W.heap.size, 0, none⟩)))) (W.alloc (.cells #[.int .i64 q, sentV E 0] 137)) := by
  subst h; subst hq; exact ⟨W, hI, rfl, rfl⟩
theorem EachEnd.ok {E : Nat → Addr} {I : List (Nat × UInt8) → World → Prop} {r : List (Nat × UInt8) × Option Nat} {acc : List (Nat × UInt8)} {W : World} (h : r = (acc, none)) (hI : I acc W) :
    EachEnd E I r (.returned .nilIface) W := by
  subst h; exact ⟨rfl, hI⟩

set_option maxHeartbeats 1000000 in
set_option maxRecDepth 100000 in
theorem each_any {E : Nat → Addr} (s : ByteArray) (w : World) (hs : s.size ≤ 1073741824) (g : Nat) (cb : Array Value) (I : List (Nat × UInt8) → World → Prop)
    (eg : ∀ args w, (callFunc g args).run Tryz.prog w = .ok (.enter g args) w)
    (hdo : ∀ acc (n : Nat) (c : UInt8) W, I acc W → n < 1000000000 → (∃ rest, acc ++ (n, c) :: rest = (runsL (bl s)).1) → Calls Tryz.prog g (#[.int .i64 n, .int .u8 c.toNat] ++ cb) W fun e W' => e = .returned (.tuple #[]) ∧ I (acc ++ [(n, c)]) W')
    (hE : ∀ acc W, I acc W → W.cell? ⟨6, 0, none⟩ = some (sentV E 0)) (h0 : I [] w) :
    Calls Tryz.prog 157 #[.string s, .func (.func g) #[] cb] w (EachEnd E I (runsL (bl s))) := by
  have HD := Lib.hid hdo
  have HE := Lib.hid hE
  clear hdo hE
  go_enter Tryz.func157, Tryz.ntmps157
  go_wp2_with fail
  go_loopw [4, 5] (fun z i wr => ∃ (k : Nat) (acc : List (Nat × UInt8)), k ≤ s.size ∧ i = .int .i64 k ∧ z = .nilIface ∧ acc.length ≤ k ∧ Hid (PP s k acc) ∧ Hid (I acc wr)) (fun _ i _ => s.size - (intOf i).toNat)
  case atStart => exact ⟨0, [], Nat.zero_le _, rfl, rfl, Nat.le_refl _, PP.start s, h0⟩
  case round =>
    obtain ⟨i, acc, hi, rfl, rfl, hacc, HP, HI⟩ := hrel
    clear h0
    have hE0 := HE.out _ _ HI.out
    by_cases hlt : i < s.size
    · have sf : ∀ W : World, (Instr.slice 9 (.string s) (some (.int .i64 (i : Int))) none none).run Tryz.prog W = .ok (.string (s.extract i s.size)) W := slice_from s _ i hi rfl
      go_wp2_with fail
      refine (number_at s i _ hs).mono ?_
      rintro e w1 ⟨n, k, rfl, HN, hn9, hik, rfl⟩
      clear sf
      have hik2 : i + k ≤ s.size := by omega
      have HN2 : Hid ((numGo ((bl s).drop i) 0 0).2 = k) := by show _ = _; rw [HN.out]
      by_cases hk0 : k = 0
      · subst hk0
        have HF : Hid (runsL (bl s) = (acc, some i)) := HP.out.fail fun f => parse_none hlt HN2.out
        clear HP HN HN2
        go_wp2_with fail
        go_ret
        exact EachEnd.err HF.out HI.out _ (by omega)
      · have hkb : ((k : Int) == 0) = false := by simp; omega
        by_cases he : i + k = s.size
        · have HF : Hid (runsL (bl s) = (acc, some (i + k))) := HP.out.fail fun f => parse_end hlt HN2.out hk0 he
          have heb : ((i : Int) + k == s.size) = true := by simp; omega
          have he2 : s.size ≤ i + k := by omega
          clear HP HN HN2 he
          go_wp2_with fail
          go_ret
          exact EachEnd.err HF.out HI.out _ (by omega)
        · have he2 : i + k < s.size := by omega
          have heb : ((i : Int) + k == s.size) = false := by simp; omega
          have e3 : ∀ W : World, (Instr.index 9 (.string s) (.int .i64 ((i : Int) + k))).run Tryz.prog W = .ok (.int .u8 s[i + k].toNat) W := index_nat s _ (i + k) he2 (by omega)
          by_cases hc : s[i + k] = 58
          · have hcb : (((s[i + k].toNat : Nat) : Int) != 58) = false := by rw [hc]; rfl
            by_cases hl : i + k + 1 = s.size
            · have HF : Hid (runsL (bl s) = (acc, some (i + k + 1))) := HP.out.fail fun f => parse_last hlt HN2.out hk0 he2 hc hl
              have hlb : ((i : Int) + k + 1 == s.size) = true := by simp; omega
              clear HP HN HN2 he hc hl
              go_wp2_with fail
              go_ret
              exact EachEnd.err HF.out HI.out _ (by omega)
            · have hl2 : i + k + 1 < s.size := by omega
              have hlb : ((i : Int) + k + 1 == s.size) = false := by simp; omega
              have HS : Hid (PP s (i + k + 2) (acc ++ [(n, s[i + k + 1])])) := by
                have := HP.out.step hlt HN2.out hk0 hl2 hc
                rw [HN.out] at this; exact this
              have e4 : ∀ W : World, (Instr.index 9 (.string s) (.int .i64 ((i : Int) + k + 1))).run Tryz.prog W = .ok (.int .u8 s[i + k + 1].toNat) W := index_nat s _ (i + k + 1) hl2 (by omega)
              have hcall := HD.out acc n s[i + k + 1] wr HI.out hn9 HS.out.rest
              have HC := Lib.hid hcall
              clear HP HN HN2 he hc hl hcall
              go_wp2_with fail
              refine HC.out.mono ?_
              rintro e w2 ⟨rfl, hI2⟩
              have HI2 := Lib.hid hI2
              clear hI2 HC e3 e4 hE0
              go_wp2_with fail
              go_roundw
              case rel => exact ⟨i + k + 2, acc ++ [(n, s[i + k + 1])], by omega, by go_num, rfl, by simp; omega, HS, HI2⟩
              case measure => simp [intOf]; omega
          · have HF : Hid (runsL (bl s) = (acc, some (i + k))) := HP.out.fail fun f => parse_sign hlt HN2.out hk0 he2 hc
            have hcb : (((s[i + k].toNat : Nat) : Int) != 58) = true := by
              rw [bne_iff_ne]; intro h; exact hc (UInt8.toNat_inj.1 (by show _ = 58; omega))
            clear HP HN HN2 he hc
            go_wp2_with fail
            go_ret
            exact EachEnd.err HF.out HI.out _ (by omega)
    · have HF : Hid (runsL (bl s) = (acc, none)) := HP.out.done hlt
      clear HP
      go_wp2_with fail
      go_ret
      exact EachEnd.ok HF.out HI.out
end Go.Proofs.YtomceddfbfpjjaaGreatDoor

namespace Go.Proofs.YtomceddfbfpjjaaGreatDoor
open Go Go.RowKit

theorem size1_any (n : Nat) (c : UInt8) (b a : Nat) (w : World) (ha : a + n ≤ 9223372036854775807) (hc : w.cell? ⟨b, 0, none⟩ = some (.int .i64 a)) (hf : w.frozen? ⟨b, 0, none⟩ = false) :
    Calls Tryz.prog 177 #[.int .i64 n, .int .u8 c.toNat, .pointer (some ⟨b, 0, none⟩)] w fun e w' => e = .returned (.tuple #[]) ∧ w' = w.setCell ⟨b, 0, none⟩ (.int .i64 ((a : Int) + n)) := by
  go_enter Tryz.func177, Tryz.ntmps177
  go_wp2
  go_end0
  exact ⟨rfl, rfl⟩

/-- The error of a pressed text. -/
def errR : Option Nat → Er
  | none => Er.nil
  | some p => Er.fault p 1

/-- What Size tells. -/
def sizeR (r : List (Nat × UInt8) × Option Nat) : Nat := match r.2 with
  | none => sumR r.1
  | some _ => 0
theorem sizeR_none {r : List (Nat × UInt8) × Option Nat} (h : r.2 = none) : sizeR r = sumR r.1 := by unfold sizeR; rw [h]
theorem sizeR_some {r : List (Nat × UInt8) × Option Nat} {p : Nat} (h : r.2 = some p) : sizeR r = 0 := by unfold sizeR; rw [h]

def SizeInv (w : World) (acc : List (Nat × UInt8)) (W : World) : Prop :=
  W.heap[w.heap.size]? = some (.cells #[.int .i64 (sumR acc : Nat)] 3 (0, 0)) ∧ Below w.heap.size w W

set_option maxRecDepth 100000 in
theorem size_any {E : Nat → Addr} (s : ByteArray) (w : World) (hs : s.size ≤ 1073741824) (hE : Env E w) :
    Calls Tryz.prog 156 #[.string s] w fun e w' => ∃ v, e = .returned (.tuple #[.int .i64 (sizeR (runsL (bl s)) : Nat), v]) ∧ IsErr E w' v (errR (runsL (bl s)).2) ∧ Below w.heap.size w w' := by
  have eg : ∀ args w, (callFunc 177 args).run Tryz.prog w = .ok (.enter 177 args) w := enters_of Tryz.func177 (by kernel_rfl) rfl
  have hsum := runs_sum (bl s)
  rw [bl_length] at hsum
  have hEach := each_any (E := E) s (w.alloc (.cells #[.int .i64 0] 3)) hs 177 #[.pointer (some ⟨w.heap.size, 0, none⟩)] (SizeInv w) eg
    (fun acc n c W hI hn hrest => by
      obtain ⟨rest, hr⟩ := hrest
      obtain ⟨hc, hb⟩ := hI
      have hle : sumR acc + n ≤ 9223372036854775807 := by
        rw [← hr, sumR_append, sumR_cons] at hsum
        simp only at hsum
        omega
      refine (size1_any n c w.heap.size (sumR acc) W hle (by simp [World.cell?, hc]) (by simp [World.frozen?, hc])).mono ?_
      rintro e W' ⟨rfl, rfl⟩
      refine ⟨rfl, ?_, hb.setCell (Nat.le_refl _) _⟩
      rw [sumR_append, one_setCell hc]
      simp [sumR])
    (fun acc W hI => by rw [hI.2.cell (p := ⟨6, 0, none⟩) (lt_of_cell hE.eText)]; exact hE.eText)
    ⟨heap_alloc_new w _, (Below.refl _ _).alloc (Nat.le_refl _) _⟩
  have H := Lib.hid hEach
  clear hEach
  go_enter Tryz.func156, Tryz.ntmps156
  go_wp2_with fail
  refine H.out.mono ?_
  intro e w1 hend
  cases hr : (runsL (bl s)).2 with
  | none =>
    unfold EachEnd at hend
    rw [hr] at hend
    obtain ⟨rfl, hI1, hI2⟩ := hend
    have hc : w1.cell? ⟨w.heap.size, 0, none⟩ = some (.int .i64 (sumR (runsL (bl s)).1 : Nat)) := by simp [World.cell?, hI1]
    have HR := Lib.hid hr
    clear hr H
    go_wp2_with fail
    go_ret2
    rw [HR.out, sizeR_none HR.out]
    exact ⟨_, rfl, IsErr.nil _ _, hI2⟩
  | some p =>
    unfold EachEnd at hend
    rw [hr] at hend
    obtain ⟨W, ⟨hI1, hI2⟩, rfl, rfl⟩ := hend
    have hb : Below w.heap.size w (W.alloc (.cells #[.int .i64 p, sentV E 0] 137)) := hI2.alloc hI2.size _
    have hV : IsErr E (W.alloc (.cells #[.int .i64 p, sentV E 0] 137)) (.iface 134 (.pointer (some ⟨W.heap.size, 0, none⟩))) (Er.fault p 1) :=
      IsErr.fault E _ 0 (by decide) p W.heap.size (by rw [World.cell?_alloc_at _ _ _ _ rfl]; rfl) (by rw [World.cell?_alloc_at _ _ _ _ rfl]; rfl)
    have HR := Lib.hid hr
    clear hr H
    go_wp2_with fail
    go_ret2
    rw [HR.out, sizeR_some HR.out]
    exact ⟨_, rfl, hV, hb⟩
end Go.Proofs.YtomceddfbfpjjaaGreatDoor

namespace Go.Proofs.YtomceddfbfpjjaaGreatDoor
open Go Go.RowKit

theorem open1_any (n : Nat) (c : UInt8) (B b : Nat) (acc : List UInt8) (w : World) (hn : n < 1000000000) (hlen : acc.length + n ≤ 140737488355328) (hB : IsB B b (Lib.byteCells acc) w) (hBw : B ≤ w.heap.size) :
    Calls Tryz.prog 158 #[.int .i64 n, .int .u8 c.toNat, .pointer (some ⟨b, 0, none⟩)] w fun e w' => e = .returned (.tuple #[]) ∧ IsB B b (Lib.byteCells (acc ++ List.replicate n c)) w' ∧ Below B w w' := by
  go_enter Tryz.func158, Tryz.ntmps158
  go_wp2_with fail
  go_loopw [6] (fun i wr => ∃ j : Nat, j ≤ n ∧ i = .int .i64 j ∧ IsB B b (Lib.byteCells (acc ++ List.replicate j c)) wr ∧ Below B w wr) (fun i _ => n - (intOf i).toNat)
  case atStart => exact ⟨0, Nat.zero_le _, rfl, by simpa using hB, Below.refl _ _⟩
  case round =>
    obtain ⟨j, hj, rfl, hBj, hb⟩ := hrel
    by_cases hlt : j < n
    · go_wp2_with fail
      refine (writeByte_any B b _ c.toNat _ hBj (by rw [Lib.byteCells_length, List.length_append, List.length_replicate]; omega) (by have := hb.size; omega)).mono ?_
      rintro e w2 ⟨rfl, hB2, hb2⟩
      have hB3 : IsB B b (Lib.byteCells (acc ++ List.replicate (j + 1) c)) w2 := by
        rw [List.replicate_succ', ← List.append_assoc, byteCells_append]; exact .inr hB2
      have hb3 := hb.trans hb2
      clear hB2 hb2 hBj hb
      go_wp2_with fail
      go_roundw
      case rel => exact ⟨j + 1, by omega, by go_num, hB3, hb3⟩
      case measure => simp [intOf]; omega
    · obtain rfl : j = n := by omega
      go_wp2_with fail
      go_end0
      exact ⟨rfl, hBj, hb⟩

def OpenInv (w : World) (acc : List (Nat × UInt8)) (W : World) : Prop :=
  IsB w.heap.size w.heap.size (Lib.byteCells (openR acc)) W ∧ Below w.heap.size w W

set_option maxHeartbeats 1000000 in
set_option maxRecDepth 100000 in
theorem open_any {E : Nat → Addr} (s : ByteArray) (most : Int) (w : World) (hs : s.size ≤ 1073741824) (hm : most ≤ 1099511627776) (hE : Env E w) :
    Calls Tryz.prog 129 #[.string s, .int .i64 most] w fun e w' => ∃ t v, e = .returned (.tuple #[.string t, v]) ∧ Hid (bl t = openT (runsL (bl s)) most) ∧ IsErr E w' v (openE (runsL (bl s)) most) ∧ Below w.heap.size w w' := by
  have eg : ∀ args w, (callFunc 158 args).run Tryz.prog w = .ok (.enter 158 args) w := enters_of Tryz.func158 (by kernel_rfl) rfl
  have EG := Lib.hid eg
  clear eg
  go_enter Tryz.func129, Tryz.ntmps129
  go_wp2_with fail
  refine (size_any s w hs hE).mono ?_
  rintro e w1 ⟨v, rfl, hv, hb1⟩
  cases hr : (runsL (bl s)).2 with
  | some p =>
    have hv' := hv
    rw [hr] at hv'
    obtain ⟨b, _, hvb, _, _⟩ := hv'.fault_inv
    subst hvb
    have HT := Lib.hid (open_some hr most)
    have HV : IsErr E w1 _ (Er.fault p 1) := hv'
    clear hv hv' hr
    go_wp2_with fail
    go_ret2
    rw [HT.out.1, HT.out.2]
    exact ⟨⟨#[]⟩, _, rfl, rfl, HV, hb1⟩
  | none =>
    rw [hr] at hv
    have hvn := hv.nil_inv
    subst hvn
    have hsz := sizeR_none hr
    rw [hsz]
    have hE1 := hE.ext hb1
    clear hv hsz
    by_cases hmm : most < (sumR (runsL (bl s)).1 : Int)
    · have HT := Lib.hid (open_much hr hmm)
      have e7 := hE1.eFull
      clear hr
      go_wp2_with fail
      go_quiet (fail)
      go_wp2_with fail
      go_ret2
      rw [HT.out.1, HT.out.2]
      exact ⟨⟨#[]⟩, _, rfl, rfl, IsErr.base E _ 7 (by decide), hb1.trans (below_drewN _ _ _)⟩
    · have HT := Lib.hid (open_fine hr hmm)
      have hEach := each_any (E := E) s (w1.alloc (.cells #[.pointer none, .slice none 0 0] 152)) hs 158 #[.pointer (some ⟨w1.heap.size, 0, none⟩)] (OpenInv w1) EG.out
        (fun acc n c W hI hn hrest => by
          obtain ⟨rest, hrr⟩ := hrest
          obtain ⟨hB, hb⟩ := hI
          refine (open1_any n c _ _ _ W hn ?_ hB hb.size).mono ?_
          · rw [openR_length]
            rw [← hrr, sumR_append, sumR_cons] at hmm
            simp only at hmm
            omega
          · rintro e W' ⟨rfl, hB', hb'⟩
            refine ⟨rfl, ?_, hb.trans hb'⟩
            rw [openR_append]
            simpa [openR] using hB')
        (fun acc W hI => by rw [hI.2.cell (p := ⟨6, 0, none⟩) (lt_of_cell hE1.eText)]; exact hE1.eText)
        ⟨isB_new w1 _ (Nat.le_refl _), (Below.refl _ _).alloc (Nat.le_refl _) _⟩
      have H := Lib.hid hEach
      have HR := Lib.hid hr
      clear hEach hr
      go_wp2_with fail
      refine H.out.mono ?_
      intro e w2 hend
      unfold EachEnd at hend
      rw [HR.out] at hend
      obtain ⟨rfl, hB2, hb2⟩ := hend
      clear H
      go_wp2_with fail
      refine (Tryz.Builder_String_any _ _ _ _ hB2 hb2.size).mono ?_
      rintro e w3 ⟨rfl, hb3⟩
      have hfin : Below w.heap.size w w3 := hb1.trans ((hb2.trans hb3).mono hb1.size)
      clear hB2 hb2 hb3
      go_wp2_with fail
      go_ret2
      rw [HT.out.1, HT.out.2]
      exact ⟨_, _, rfl, rfl, IsErr.nil _ _, hfin⟩
end Go.Proofs.YtomceddfbfpjjaaGreatDoor
