/- package want: Check and Text by their contracts. package want: Text by its contract. package want: unpacked, Open, Right by their contracts. package want: Read by its contract. The law's own small words: wanted, LongWant. -/
import Derived.Test.YtomceddfbfpjjaaGreatDoorKWantPlains
import Derived.Test.YtomceddfbfpjjaaGreatDoorKRefLinkUp
import Derived.Test.YtomceddfbfpjjaaGreatDoorKPackReads
import Derived.Test.YtomceddfbfpjjaaGreatDoorKSummed
import Derived.Test.YtomceddfbfpjjaaGreatDoorKTreeFew
import Derived.Lib.SliceRun
import Derived.Test.YtomceddfbfpjjaaGreatDoorKTreeStripsLaw
import Derived.Test.YtomceddfbfpjjaaGreatDoorKTreeLoops
import Derived.Test.YtomceddfbfpjjaaGreatDoorKPackedUp
import Derived.Test.YtomceddfbfpjjaaGreatDoorKPressings
import Derived.BigQuiet
import Derived.Laws.OwnMore
import Derived.Test.YtomceddfbfpjjaaGreatDoorKFiles
import Derived.Test.YtomceddfbfpjjaaGreatDoorKTreePlains
namespace Go.Proofs.YtomceddfbfpjjaaGreatDoor
open Go Go.RowKit

/-- What is wanted, as a value. -/
def wV (x : WantB) : Value := .agg #[.string x.name, .string x.url, .string x.kind, .int .i64 x.strip, .int .i64 x.sum]
/-- What is wanted, in a block of its own. -/
def WBox (w : World) (p : Nat) (x : WantB) : Prop := w.heap[p]? = some (.cells #[.string x.name, .string x.url, .string x.kind, .int .i64 x.strip, .int .i64 x.sum] 25 (0, 0))
theorem WBox.ext {w w' : World} {p : Nat} {x : WantB} (h : WBox w p x) (hb : Below w.heap.size w w') : WBox w' p x := (hb.block p (Array.getElem?_eq_some_iff.1 h).1).trans h
theorem WBox.lt {w : World} {p : Nat} {x : WantB} (h : WBox w p x) : p < w.heap.size := (Array.getElem?_eq_some_iff.1 h).1
theorem WBox.cells {w : World} {p : Nat} {x : WantB} (h : WBox w p x) : w.cell? ⟨p, 0, none⟩ = some (.string x.name) ∧ w.cell? ⟨p, 1, none⟩ = some (.string x.url) ∧ w.cell? ⟨p, 2, none⟩ = some (.string x.kind) ∧ w.cell? ⟨p, 3, none⟩ = some (.int .i64 x.strip) ∧ w.cell? ⟨p, 4, none⟩ = some (.int .i64 x.sum) :=
  ⟨by rw [Lib.cell_of_heap h]; rfl, by rw [Lib.cell_of_heap h]; rfl, by rw [Lib.cell_of_heap h]; rfl, by rw [Lib.cell_of_heap h]; rfl, by rw [Lib.cell_of_heap h]; rfl⟩
theorem WBox.new (w : World) (x : WantB) : WBox (w.alloc (.cells #[.string x.name, .string x.url, .string x.kind, .int .i64 x.strip, .int .i64 x.sum] 25)) w.heap.size x := heap_alloc_new w _

/-- What is stored over a box. -/
def wPut (w : World) (p : Nat) (y : WantB) : World := ((((w.setCell ⟨p, 0, none⟩ (.string y.name)).setCell ⟨p, 1, none⟩ (.string y.url)).setCell ⟨p, 2, none⟩ (.string y.kind)).setCell ⟨p, 3, none⟩ (.int .i64 y.strip)).setCell ⟨p, 4, none⟩ (.int .i64 y.sum)
theorem WBox.store {w : World} {p : Nat} {x : WantB} (h : WBox w p x) (y : WantB) : WBox (wPut w p y) p y := by
  unfold WBox at h
  unfold WBox wPut
  simp [World.setCell, Array.getElem?_modify, h]
def wkindsB : List ByteArray := [⟨#[112, 108, 97, 105, 110]⟩, ⟨#[112, 97, 99, 107]⟩, ⟨#[112, 114, 101, 115, 115]⟩]
theorem wkindsB_has (k : ByteArray) : Lib.containsS (wkindsB.take 3) k = wkinds.contains (bl k) := by
  rw [Bool.eq_iff_iff, Lib.containsS_iff, List.contains_iff_mem]
  constructor
  · intro h; exact List.mem_map.2 ⟨k, h, rfl⟩
  · intro h
    have h2 : bl k ∈ wkindsB.map bl := h
    obtain ⟨z, hz, e⟩ := List.mem_map.1 h2
    rw [← blInj e]; exact hz
set_option maxRecDepth 100000 in
theorem wkinds_any (k : ByteArray) (w : World) : Calls Tryz.prog 68 #[.slice (some ⟨w.heap.size, 0, none⟩) 3 3, .string k]
    (w.alloc (.cells #[.string ⟨#[112, 108, 97, 105, 110]⟩, .string ⟨#[112, 97, 99, 107]⟩, .string ⟨#[112, 114, 101, 115, 115]⟩] 9)) fun e w' => e = .returned (.bool (wkinds.contains (bl k))) ∧ Below w.heap.size w w' := by
  refine (Tryz.slices_Contains_string w.heap.size 0 3 3 wkindsB k _ (Nat.le_refl 3) (by decide) ?_).mono ?_
  · intro j hj
    rw [World.cell?_alloc_at _ _ _ _ rfl]
    have h3 : j < 3 := hj
    have : j = 0 ∨ j = 1 ∨ j = 2 := by omega
    rcases this with rfl | rfl | rfl <;> rfl
  · rintro e w' ⟨rfl, rfl⟩
    exact ⟨by rw [wkindsB_has], (Below.refl _ w).alloc (Nat.le_refl _) _⟩

section
variable {x : WantB}
theorem wantE_name (h : partB (bl x.name) = false) : wantE x = 5 := by unfold wantE; rw [if_pos h]
theorem wantE_url {c : Nat} (h : partB (bl x.name) = true) (h2 : linkE (bl x.url) = c + 1) : wantE x = c + 1 := by unfold wantE; rw [if_neg (by rw [h]; simp), if_pos (by omega), h2]
theorem wantE_from (h : partB (bl x.name) = true) (h2 : linkE (bl x.url) = 0) : wantE x = if wkinds.contains (bl x.kind) = false then 4 else if x.strip < 0 ∨ 6 < x.strip then 2 else if bl x.kind = kPlain ∧ x.strip ≠ 0 then 3 else if rightB x.sum = false then 2 else 0 := by
  unfold wantE; rw [if_neg (by rw [h]; simp), if_neg (by omega)]
end
theorem kind_eqb (k : ByteArray) : (k.toList == [112, 108, 97, 105, 110]) = decide (bl k = kPlain) := by rw [toList_bl, Bool.eq_iff_iff, beq_iff_eq, decide_eq_true_iff]; rfl
theorem kind_eqb2 (k : ByteArray) : (k.toList == [112, 97, 99, 107]) = decide (bl k = kPack) := by rw [toList_bl, Bool.eq_iff_iff, beq_iff_eq, decide_eq_true_iff]; rfl
theorem kind_eqb3 (k : ByteArray) : (k.toList == [112, 114, 101, 115, 115]) = decide (bl k = kPress) := by rw [toList_bl, Bool.eq_iff_iff, beq_iff_eq, decide_eq_true_iff]; rfl

set_option maxHeartbeats 2000000 in
set_option maxRecDepth 100000 in
theorem wantCheck_any {E : Nat → Addr} (x : WantB) (w : World) (hn : x.name.size ≤ 1000000) (hu : x.url.size ≤ 1000000) (hE : FEnv E w) :
    Calls Tryz.prog 65 #[.agg #[.string x.name, .string x.url, .string x.kind, .int .i64 x.strip, .int .i64 x.sum]] w fun e w' => e = .returned (errV E (wantE x)) ∧ Below w.heap.size w w' := by
  obtain ⟨px, hpx⟩ : ∃ px, w.heap.size = px := ⟨_, rfl⟩
  obtain ⟨wx, hwx⟩ : ∃ wx, w.alloc (.cells #[.string x.name, .string x.url, .string x.kind, .int .i64 x.strip, .int .i64 x.sum] 25) = wx := ⟨_, rfl⟩
  have hbx : Below w.heap.size w wx := by rw [← hwx]; exact (Below.refl _ _).alloc (Nat.le_refl _) _
  have BX := Lib.hid (show WBox wx px x by rw [← hwx, ← hpx]; exact WBox.new w x)
  have HB := Lib.hid hbx
  have HE := Lib.hid hE
  have HWX := Lib.hid hwx
  have HPX := Lib.hid hpx
  have K1 := Lib.hid (@wantE_name x)
  have K2 := Lib.hid (fun c => @wantE_url x c)
  have K3 := Lib.hid (@wantE_from x)
  obtain ⟨c0, _, _, _, _⟩ := BX.out.cells
  clear hpx hwx hbx hE
  go_enter Tryz.func65, Tryz.ntmps65
  go_upto_region 1 with fail
  rw [HWX.out, HPX.out]
  go_wp2_with fail
  refine (part_any x.name wx (by omega)).mono ?_
  rintro e w1 ⟨rfl, hb1⟩
  have B1 := Lib.hid (HB.out.trans (hb1.mono HB.out.size))
  have BX1 := Lib.hid (BX.out.ext hb1)
  clear hb1 c0
  cases hp : partB (bl x.name) with
  | false =>
    have HX := Lib.hid (K1.out hp)
    have c4 := (HE.out.ext B1.out).2.name
    clear hp
    go_wp2_with fail
    go_ret
    exact ⟨by rw [HX.out]; rfl, B1.out⟩
  | true =>
    obtain ⟨_, c1, _, _, _⟩ := BX1.out.cells
    have HL := Lib.hid (linkCheck_any x.url w1 (by omega) ⟨(HE.out.ext B1.out).2, (HE.out.ext B1.out).1.eText, (HE.out.ext B1.out).1.eKind, (HE.out.ext B1.out).1.eNone⟩)
    have HP := Lib.hid hp
    clear hp
    go_wp2_with fail
    refine HL.out.mono ?_
    clear HL
    rintro e w2 ⟨rfl, hb2⟩
    have B2 := Lib.hid (B1.out.trans (hb2.mono B1.out.size))
    have BX2 := Lib.hid (BX1.out.ext hb2)
    clear hb2 c1
    cases hl : linkE (bl x.url) with
    | succ c =>
      have HX := Lib.hid (K2.out c HP.out hl)
      rw [show errV E (c + 1) = sentV E c from rfl]
      clear hl
      go_wp2_with fail
      go_ret
      exact ⟨by rw [HX.out]; rfl, B2.out⟩
    | zero =>
      have HX := Lib.hid (K3.out HP.out hl)
      rw [show errV E 0 = .nilIface from rfl]
      obtain ⟨_, _, c2', _, _⟩ := BX2.out.cells
      have c2 := Lib.cell?_alloc_some (.cells #[.string ⟨#[112, 108, 97, 105, 110]⟩, .string ⟨#[112, 97, 99, 107]⟩, .string ⟨#[112, 114, 101, 115, 115]⟩] 9) c2'
      have HK := Lib.hid (wkinds_any x.kind w2)
      clear hl K1 K2 K3
      go_wp2_with fail
      refine HK.out.mono ?_
      clear HK
      rintro e w3 ⟨rfl, hb3⟩
      have B3 := Lib.hid (B2.out.trans (hb3.mono B2.out.size))
      have BX3 := Lib.hid (BX2.out.ext hb3)
      obtain ⟨_, _, d2, d3, d4⟩ := BX3.out.cells
      have c4 := (HE.out.ext B3.out).1.eKind
      have c5 := (HE.out.ext B3.out).1.eBound
      have c6 := (HE.out.ext B3.out).1.eShape
      clear hb3 c2 c2'
      cases hk : wkinds.contains (bl x.kind) with
      | false =>
        have HY : Hid (wantE x = 4) := by show _ = _; rw [HX.out, if_pos hk]
        clear hk
        go_wp2_with fail
        go_ret
        exact ⟨by rw [HY.out]; rfl, B3.out⟩
      | true =>
        have HY := HX.out
        rw [if_neg (by rw [hk]; simp)] at HY
        have HX2 := Lib.hid HY
        clear hk HY HX
        by_cases h0 : x.strip < 0
        · have HZ : Hid (wantE x = 2) := by show _ = _; rw [HX2.out, if_pos (.inl h0)]
          go_wp2_with fail
          go_ret
          exact ⟨by rw [HZ.out]; rfl, B3.out⟩
        · by_cases h6 : 6 < x.strip
          · have HZ : Hid (wantE x = 2) := by show _ = _; rw [HX2.out, if_pos (.inr h6)]
            go_wp2_with fail
            go_ret
            exact ⟨by rw [HZ.out]; rfl, B3.out⟩
          · have HY := HX2.out
            rw [if_neg (by omega)] at HY
            have HX3 := Lib.hid HY
            clear HY HX2
            have HS := Lib.hid (⟨h0, h6⟩ : ¬ x.strip < 0 ∧ ¬ 6 < x.strip)
            have q := kind_eqb x.kind
            by_cases hkp : bl x.kind = kPlain
            · rw [decide_eq_true hkp] at q
              by_cases hs0 : x.strip = 0
              · have HY : Hid (wantE x = if rightB x.sum = false then 2 else 0) := by show _ = _; rw [HX3.out, if_neg (fun e => e.2 hs0)]
                have q0 : (x.strip == 0) = true := by rw [hs0]; rfl
                clear hkp hs0 HX3
                go_wp2_with fail
                refine (right_any _ _).mono ?_
                rintro e w4 ⟨rfl, rfl⟩
                cases hr : rightB x.sum with
                | false =>
                  have HZ : Hid (wantE x = 2) := by show _ = _; rw [HY.out, if_pos hr]
                  clear hr
                  go_wp2_with fail
                  go_ret
                  exact ⟨by rw [HZ.out]; rfl, B3.out⟩
                | true =>
                  have HZ : Hid (wantE x = 0) := by show _ = _; rw [HY.out, if_neg (by rw [hr]; simp)]
                  clear hr
                  go_wp2_with fail
                  go_ret
                  exact ⟨by rw [HZ.out]; rfl, B3.out⟩
              · have HZ : Hid (wantE x = 3) := by show _ = _; rw [HX3.out, if_pos ⟨hkp, hs0⟩]
                have q0 : (x.strip == 0) = false := beq_eq_false_iff_ne.2 hs0
                clear hkp hs0 HX3
                go_wp2_with fail
                go_ret
                exact ⟨by rw [HZ.out]; rfl, B3.out⟩
            · rw [decide_eq_false hkp] at q
              have HY : Hid (wantE x = if rightB x.sum = false then 2 else 0) := by show _ = _; rw [HX3.out, if_neg (fun e => hkp e.1)]
              clear hkp HX3
              go_wp2_with fail
              refine (right_any _ _).mono ?_
              rintro e w4 ⟨rfl, rfl⟩
              cases hr : rightB x.sum with
              | false =>
                have HZ : Hid (wantE x = 2) := by show _ = _; rw [HY.out, if_pos hr]
                clear hr
                go_wp2_with fail
                go_ret
                exact ⟨by rw [HZ.out]; rfl, B3.out⟩
              | true =>
                have HZ : Hid (wantE x = 0) := by show _ = _; rw [HY.out, if_neg (by rw [hr]; simp)]
                clear hr
                go_wp2_with fail
                go_ret
                exact ⟨by rw [HZ.out]; rfl, B3.out⟩
end Go.Proofs.YtomceddfbfpjjaaGreatDoor

namespace Go.Proofs.YtomceddfbfpjjaaGreatDoor
open Go Go.RowKit

/-- The numbers of what is right. -/
theorem want_nums {x : WantB} (h : wantE x = 0) : 0 ≤ x.strip ∧ x.strip ≤ 6 ∧ 0 ≤ x.sum ∧ x.sum < 1000000007 := by
  unfold wantE at h
  split at h
  · cases h
  split at h
  · rename_i h2; exact absurd h h2
  split at h
  · cases h
  split at h
  · cases h
  rename_i h4
  split at h
  · cases h
  split at h
  · cases h
  rename_i h6
  unfold rightB at h6
  simp only [Bool.not_eq_false, Bool.and_eq_true, decide_eq_true_eq] at h6
  omega

end Go.Proofs.YtomceddfbfpjjaaGreatDoor

namespace Go.Proofs.YtomceddfbfpjjaaGreatDoor
open Go Go.RowKit

theorem IsErr.none_inv {E : Nat → Addr} {w : World} {v : Value} {c : Nat} (h : IsErr E w v ⟨c, none⟩) : v = errV E c := by
  cases c with
  | zero => exact h.nil_inv
  | succ k => exact h.base_inv.2
theorem read_fine {s : List UInt8} (h : (readEr s).code = 0) : TreeOk (readT s) := (treeOk_iff _).1 (read_back h).1
theorem readT_bad {s : List UInt8} (h : (readEr s).code ≠ 0) : readT s = [] := by
  by_cases h2 : 20000 < s.length
  · exact (readEr_big h2).2
  · cases ha : allL s with
    | mk acc b =>
      cases b with
      | false => exact (readEr_bad h2 ha).2
      | true =>
        have := readEr_all h2 ha
        rw [this.2, if_neg (by rw [← this.1]; exact h)]
theorem unpackT_fine {s : List UInt8} (n : Int) (h : (readEr s).code = 0) : unpackT s n = ((stripTr (readT s) n).1.code, (stripTr (readT s) n).2) := by unfold unpackT; rw [if_neg (by rw [h]; simp)]
theorem unpackT_read {s : List UInt8} (n : Int) (h : (readEr s).code ≠ 0) : unpackT s n = ((readEr s).code, []) := by unfold unpackT; rw [if_pos h]
theorem IsErr.zero {E : Nat → Addr} {w : World} {v : Value} {er : Er} (h : IsErr E w v er) (h0 : er.code = 0) : v = .nilIface :=
  IsErr.nil_inv (a := er.at?) (by rw [show er = ⟨er.code, er.at?⟩ from rfl, h0] at h; exact h)

/-- Files that came: with no error they lie in rows of their own. -/
def FGot (w : World) (b c : Nat) (v : Value) (l : List FileB) : Prop := FRow w v l ∧ (∀ n k, v = .slice none n k → n = 0 ∧ k = 0) ∧ (c = 0 → FOwn w b v l)
theorem FGot.arg {w : World} {b c : Nat} {v : Value} {l : List FileB} (h : FGot w b c v l) : FArg w v l := ⟨h.1, h.2.1⟩
theorem FGot.of {w : World} {b c : Nat} {v : Value} {l : List FileB} (h : FOwn w b v l) : FGot w b c v l := ⟨h.arg.1, h.arg.2, fun _ => h⟩
theorem FGot.bad {w : World} {b c : Nat} {v : Value} {l : List FileB} (h : FArg w v l) (hc : c ≠ 0) : FGot w b c v l := ⟨h.1, h.2, fun e => absurd e hc⟩
theorem FGot.ext {w w' : World} {b c : Nat} {v : Value} {l : List FileB} (h : FGot w b c v l) (hb : Below w.heap.size w w') : FGot w' b c v l := ⟨h.1.ext hb, h.2.1, fun e => (h.2.2 e).ext hb⟩
theorem FGot.low {w : World} {b b2 c : Nat} {v : Value} {l : List FileB} (h : FGot w b c v l) (hb : b2 ≤ b) : FGot w b2 c v l := ⟨h.1, h.2.1, fun e => FOwn.low (h.2.2 e) hb⟩
theorem one_own (W : World) (f : FileB) : FOwn (W.alloc (.cells #[.string f.path, .bool f.run, .string f.text] 68)) W.heap.size (.slice (some ⟨W.heap.size, 0, none⟩) 1 1) [f] :=
  World.ownsRow_lit W #[.string f.path, .bool f.run, .string f.text] 1 (Nat.le_refl _) (by decide) rfl
/-- What Open and Right hand back. -/
def WOpenPost (E : Nat → Addr) (r : Nat × List FileB) (w : World) (e : Ending) (w' : World) : Prop :=
  (∃ v, e = .returned (.tuple #[v, errV E r.1]) ∧ Hid (FGot w' w.heap.size r.1 v r.2)) ∧ Below w.heap.size w w'
theorem WOpenPost.none {E : Nat → Addr} {r : Nat × List FileB} {w w' : World} {c : Nat} (h : r = (c, [])) (hb : Below w.heap.size w w') : WOpenPost E r w (.returned (.tuple #[.slice none 0 0, errV E c])) w' :=
  ⟨⟨_, by rw [h], by rw [h]; exact FGot.of (FOwn.nil _ _)⟩, hb⟩
theorem WOpenPost.low {E : Nat → Addr} {r : Nat × List FileB} {w w1 w' : World} {e : Ending} (h : WOpenPost E r w1 e w') (hb : Below w.heap.size w w1) : WOpenPost E r w e w' :=
  ⟨by obtain ⟨⟨v, he, hv⟩, _⟩ := h; exact ⟨v, he, hv.out.low hb.size⟩, hb.trans (h.2.mono hb.size)⟩

set_option maxHeartbeats 2000000 in
set_option maxRecDepth 100000 in
theorem unpacked_any {E : Nat → Addr} (s : ByteArray) (n : Int) (w : World) (hs : s.size ≤ 1000000) (hn : (Lit.int .i64 n).wf = true) (hE : REnv E w) :
    Calls Tryz.prog 128 #[.string s, .int .i64 n] w (WOpenPost E (unpackT (bl s) n) w) := by
  have HE := Lib.hid hE
  have HWF := Lib.hid hn
  have C := Lib.hid (packRead_any s w hs hE)
  clear hE hn
  go_enter Tryz.func128, Tryz.ntmps128
  go_wp2_with fail
  refine C.out.mono ?_
  clear C
  rintro e w1 ⟨⟨v, ev, rfl, HV, HI⟩, hb1⟩
  have B1 := Lib.hid hb1
  clear hb1
  by_cases hz : (readEr (bl s)).code = 0
  · obtain rfl : ev = .nilIface := HI.out.zero hz
    have HX := Lib.hid (unpackT_fine n hz)
    have ok := read_fine hz
    have C := Lib.hid (treeStrip_any v (readT (bl s)) n w1 HV.out.1 (by have := ok.few; omega) (fun f hf => (ok.small f hf).1) HWF.out (HE.out.ext B1.out).1.1)
    clear hz HI ok
    go_wp2_with fail
    refine C.out.mono ?_
    clear C
    rintro e w2 ⟨⟨v2, ev2, rfl, HI2, HO2⟩, hb2⟩
    have B2 := Lib.hid (B1.out.trans (hb2.mono B1.out.size))
    clear hb2
    go_wp2_with fail
    refine (treeBare_any _ ev2 w2 HI2.out).mono ?_
    rintro e w3 ⟨⟨u, rfl, HU⟩, rfl⟩
    obtain rfl := HU.out.none_inv
    go_wp2_with fail
    go_ret2
    exact ⟨⟨v2, by rw [HX.out]; rfl, by rw [HX.out]; exact FGot.of (FOwn.low HO2.out B1.out.size)⟩, B2.out⟩
  · have HX := Lib.hid (unpackT_read n hz)
    have HR := Lib.hid (readT_bad hz)
    have HZ := Lib.hid hz
    obtain ⟨t, y, rfl⟩ := HI.out.some_inv hz
    clear hz
    go_wp2_with fail
    refine (treeBare_any _ _ w1 HI.out).mono ?_
    rintro e w3 ⟨⟨u, rfl, HU⟩, rfl⟩
    obtain rfl := HU.out.none_inv
    go_wp2_with fail
    go_ret2
    exact ⟨⟨v, by rw [HX.out]; rfl, by rw [HX.out]; have := HV.out; rw [HR.out] at this; exact FGot.bad this HZ.out⟩, B1.out⟩

theorem openR_len : ∀ r : List (Nat × UInt8), (openR r).length = sumR r
  | [] => rfl
  | (n, c) :: r => by
    have h := openR_append [(n, c)] r
    rw [show [(n, c)] ++ r = (n, c) :: r from rfl] at h
    rw [h, List.length_append, openR_len r]
    simp [openR, sumR]
theorem openT_len (r : List (Nat × UInt8) × Option Nat) : (openT r 20000).length ≤ 20000 := by
  unfold openT
  split
  · split
    · simp
    · rw [openR_len]; omega
  · simp
section
variable {x : WantB} {s : ByteArray}
theorem openW_check {c : Nat} (h : wantE x = c + 1) : openW x s = (c + 1, []) := by unfold openW; rw [if_pos (by omega), h]
theorem openW_from (h : wantE x = 0) : openW x s = if 20000 < s.size then (2, [])
  else if bl x.kind = kPack then unpackT (bl s) x.strip
  else if bl x.kind = kPress then (if (openE (runsL (bl s)) 20000).code ≠ 0 then ((openE (runsL (bl s)) 20000).code, []) else unpackT (openT (runsL (bl s)) 20000) x.strip)
  else if (treeEr (oneFile x.name s)).code ≠ 0 then ((treeEr (oneFile x.name s)).code, []) else (0, oneFile x.name s) := by
  unfold openW; rw [if_neg (by omega)]
end

set_option maxHeartbeats 2000000 in
set_option maxRecDepth 100000 in
theorem wantOpen_any {E : Nat → Addr} (x : WantB) (s : ByteArray) (w : World) (hn : x.name.size ≤ 30000) (hu : x.url.size ≤ 1000000) (hs : s.size ≤ 1000000) (hE : REnv E w) :
    Calls Tryz.prog 96 #[.agg #[.string x.name, .string x.url, .string x.kind, .int .i64 x.strip, .int .i64 x.sum], .string s] w (WOpenPost E (openW x s) w) := by
  obtain ⟨i0, hi0, hz0, hz1, hz2⟩ := info_parts Tryz.infoFile
  obtain ⟨px, hpx⟩ : ∃ px, w.heap.size = px := ⟨_, rfl⟩
  obtain ⟨wx, hwx⟩ : ∃ wx, w.alloc (.cells #[.string x.name, .string x.url, .string x.kind, .int .i64 x.strip, .int .i64 x.sum] 25) = wx := ⟨_, rfl⟩
  have hbx : Below w.heap.size w wx := by rw [← hwx]; exact (Below.refl _ _).alloc (Nat.le_refl _) _
  have BX := Lib.hid (show WBox wx px x by rw [← hwx, ← hpx]; exact WBox.new w x)
  have HB := Lib.hid hbx
  have HE := Lib.hid hE
  have HWX := Lib.hid hwx
  have HPX := Lib.hid hpx
  have K1 := Lib.hid (fun c => @openW_check x s c)
  have K2 := Lib.hid (@openW_from x s)
  obtain ⟨c0, c1, c2, c3, c4⟩ := BX.out.cells
  have C := Lib.hid (wantCheck_any x wx (by omega) hu (hE.ext hbx).1.1)
  clear hpx hwx hbx hE
  go_enter Tryz.func96, Tryz.ntmps96
  go_upto_region 1 with fail
  rw [HWX.out, HPX.out]
  go_wp2_with fail
  refine C.out.mono ?_
  clear C
  rintro e w1 ⟨rfl, hb1⟩
  have B1 := Lib.hid (HB.out.trans (hb1.mono HB.out.size))
  have BX1 := Lib.hid (BX.out.ext hb1)
  clear hb1 c0 c1 c2 c3 c4
  cases hw : wantE x with
  | succ c =>
    have HX := Lib.hid (K1.out c hw)
    rw [show errV E (c + 1) = sentV E c from rfl]
    clear hw
    go_wp2_with fail
    go_ret2
    exact WOpenPost.none HX.out B1.out
  | zero =>
    have HX := Lib.hid (K2.out hw)
    obtain ⟨n1, n2, _, _⟩ := want_nums hw
    obtain ⟨k, hkk⟩ : ∃ k : Nat, x.strip = k := ⟨x.strip.toNat, by omega⟩
    have HWF : Hid ((Lit.int .i64 x.strip).wf = true) := by show _ = _; rw [hkk]; exact wf_len (by omega)
    rw [show errV E 0 = .nilIface from rfl]
    obtain ⟨c0, _, c2, c3, _⟩ := BX1.out.cells
    have cB := (HE.out.ext B1.out).1.1.1.eBound
    clear hw K1 K2 hkk n1 n2
    by_cases h20 : 20000 < s.size
    · have HY : Hid (openW x s = (2, [])) := by show _ = _; rw [HX.out, if_pos h20]
      go_wp2_with fail
      go_quiet (fail)
      go_wp2_with fail
      go_ret2
      exact WOpenPost.none HY.out (B1.out.trans ((below_drewN _ _ _).mono B1.out.size))
    · have HX2 := HX.out
      rw [if_neg h20] at HX2
      have HX3 := Lib.hid HX2
      clear HX HX2
      have q2 := kind_eqb2 x.kind
      have q3 := kind_eqb3 x.kind
      by_cases hk2 : bl x.kind = kPack
      · rw [decide_eq_true hk2] at q2
        have HY : Hid (openW x s = unpackT (bl s) x.strip) := by show _ = _; rw [HX3.out, if_pos hk2]
        have C := Lib.hid (unpacked_any s x.strip w1 (by omega) HWF.out (HE.out.ext B1.out))
        clear hk2 HX3 q3 c0 cB
        go_wp2_with fail
        refine C.out.mono ?_
        rintro e w2 ⟨⟨v, rfl, HV⟩, hb2⟩
        go_wp2_with fail
        go_ret2
        exact ⟨⟨v, by rw [HY.out]; rfl, by rw [HY.out]; exact HV.out.low B1.out.size⟩, B1.out.trans (hb2.mono B1.out.size)⟩
      · rw [decide_eq_false hk2] at q2
        have HX4 := HX3.out
        rw [if_neg hk2] at HX4
        have HX5 := Lib.hid HX4
        clear HX3 HX4 hk2
        by_cases hk3 : bl x.kind = kPress
        · rw [decide_eq_true hk3] at q3
          have HX6 := HX5.out
          rw [if_pos hk3] at HX6
          have HX7 := Lib.hid HX6
          have C := Lib.hid (open_any s 20000 w1 (by omega) (by decide) (HE.out.ext B1.out).1.1.1)
          clear hk3 HX5 HX6 c0 cB
          go_wp2_with fail
          refine C.out.mono ?_
          clear C
          rintro e w2 ⟨t, v, rfl, HT, HI, hb2⟩
          have HI := Lib.hid HI
          have B2 := Lib.hid (B1.out.trans (hb2.mono B1.out.size))
          have BX2 := Lib.hid (BX1.out.ext hb2)
          clear c2 c3 hb2
          obtain ⟨_, _, _, c3, _⟩ := BX2.out.cells
          have ht : t.size ≤ 20000 := by rw [← bl_length, HT.out]; exact openT_len _
          by_cases hz : (openE (runsL (bl s)) 20000).code = 0
          · obtain rfl : v = .nilIface := HI.out.zero hz
            have HY : Hid (openW x s = unpackT (bl t) x.strip) := by show _ = _; rw [HX7.out, if_neg (by rw [hz]; simp), HT.out]
            have C := Lib.hid (unpacked_any t x.strip w2 (by omega) HWF.out (HE.out.ext B2.out))
            clear hz HX7 HI
            go_wp2_with fail
            refine C.out.mono ?_
            rintro e w3 ⟨⟨v, rfl, HV⟩, hb3⟩
            go_wp2_with fail
            go_ret2
            exact ⟨⟨v, by rw [HY.out]; rfl, by rw [HY.out]; exact HV.out.low B2.out.size⟩, B2.out.trans (hb3.mono B2.out.size)⟩
          · have HY : Hid (openW x s = ((openE (runsL (bl s)) 20000).code, [])) := by show _ = _; rw [HX7.out, if_pos hz]
            obtain ⟨ty, y, rfl⟩ := HI.out.some_inv hz
            clear hz HX7
            go_wp2_with fail
            refine (treeBare_any _ _ w2 HI.out).mono ?_
            rintro e w3 ⟨⟨u, rfl, HU⟩, rfl⟩
            obtain rfl := HU.out.none_inv
            go_wp2_with fail
            go_ret2
            exact WOpenPost.none HY.out B2.out
        · rw [decide_eq_false hk3] at q3
          have HX6 := HX5.out
          rw [if_neg hk3] at HX6
          have HX7 := Lib.hid HX6
          clear hk3 HX5 HX6 c3 cB
          obtain ⟨f, hf⟩ : ∃ f : FileB, (⟨x.name, false, s⟩ : FileB) = f := ⟨_, rfl⟩
          obtain ⟨wf, hwf⟩ : ∃ wf, w1.alloc (.cells #[.string x.name, .bool false, .string s] 68) = wf := ⟨_, rfl⟩
          have hbf : Below w1.heap.size w1 wf := by rw [← hwf]; exact (Below.refl _ _).alloc (Nat.le_refl _) _
          have HV : Hid (FGot wf w1.heap.size 0 (.slice (some ⟨w1.heap.size, 0, none⟩) 1 1) (oneFile x.name s)) := by
            show FGot _ _ _ _ _; rw [← hwf]; exact FGot.of (one_own w1 ⟨x.name, false, s⟩)
          have BF := Lib.hid (B1.out.trans (hbf.mono B1.out.size))
          have HWf := Lib.hid hwf
          have C := Lib.hid (treeCheck_any _ (oneFile x.name s) wf HV.out.1 (by simp [oneFile]) (fun g hg => by
            obtain rfl : g = ⟨x.name, false, s⟩ := by simpa [oneFile] using hg
            exact ⟨by show x.name.size ≤ _; omega, by show s.size ≤ _; omega⟩) (HE.out.ext BF.out).1.1)
          clear hbf hwf hf
          go_wp2_with fail
          rw [HWf.out]
          refine C.out.mono ?_
          clear C
          rintro e w2 ⟨⟨ev, rfl, HI⟩, hb2⟩
          have B2 := Lib.hid (BF.out.trans (hb2.mono BF.out.size))
          have HV2 := Lib.hid (HV.out.ext hb2)
          by_cases hz : (treeEr (oneFile x.name s)).code = 0
          · obtain rfl : ev = .nilIface := HI.out.zero hz
            have HY : Hid (openW x s = (0, oneFile x.name s)) := by show _ = _; rw [HX7.out, if_neg (by rw [hz]; simp)]
            clear hz HX7 HI hb2 c0 c2
            go_wp2_with fail
            go_ret2
            exact ⟨⟨_, by rw [HY.out]; rfl, by rw [HY.out]; exact HV2.out.low B1.out.size⟩, B2.out⟩
          · have HY : Hid (openW x s = ((treeEr (oneFile x.name s)).code, [])) := by show _ = _; rw [HX7.out, if_pos hz]
            obtain ⟨ty, y, rfl⟩ := HI.out.some_inv hz
            clear hz HX7 hb2 c0 c2
            go_wp2_with fail
            refine (treeBare_any _ _ w2 HI.out).mono ?_
            rintro e w3 ⟨⟨u, rfl, HU⟩, rfl⟩
            obtain rfl := HU.out.none_inv
            go_wp2_with fail
            go_ret2
            exact WOpenPost.none HY.out B2.out

theorem rightW_bad {x : WantB} {s : ByteArray} {c : Nat} (h : (openW x s).1 = c + 1) : rightW x s = (c + 1, []) := by unfold rightW; rw [if_pos (by omega), h]
theorem rightW_from {x : WantB} {s : ByteArray} (h : (openW x s).1 = 0) : rightW x s = if treeSum (openW x s).2 ≠ x.sum then (12, []) else (0, (openW x s).2) := by unfold rightW; rw [if_neg (by omega)]

set_option maxHeartbeats 2000000 in
set_option maxRecDepth 100000 in
theorem wantRight_any {E : Nat → Addr} (x : WantB) (s : ByteArray) (w : World) (hn : x.name.size ≤ 30000) (hu : x.url.size ≤ 1000000) (hs : s.size ≤ 1000000) (hE : REnv E w) :
    Calls Tryz.prog 69 #[.agg #[.string x.name, .string x.url, .string x.kind, .int .i64 x.strip, .int .i64 x.sum], .string s] w (WOpenPost E (rightW x s) w) := by
  obtain ⟨px, hpx⟩ : ∃ px, w.heap.size = px := ⟨_, rfl⟩
  obtain ⟨wx, hwx⟩ : ∃ wx, w.alloc (.cells #[.string x.name, .string x.url, .string x.kind, .int .i64 x.strip, .int .i64 x.sum] 25) = wx := ⟨_, rfl⟩
  have hbx : Below w.heap.size w wx := by rw [← hwx]; exact (Below.refl _ _).alloc (Nat.le_refl _) _
  have BX := Lib.hid (show WBox wx px x by rw [← hwx, ← hpx]; exact WBox.new w x)
  have HB := Lib.hid hbx
  have HE := Lib.hid hE
  have HWX := Lib.hid hwx
  have HPX := Lib.hid hpx
  have K1 := Lib.hid (fun c => @rightW_bad x s c)
  have K2 := Lib.hid (@rightW_from x s)
  have KOK := Lib.hid (@openW_ok x s)
  obtain ⟨c0, c1, c2, c3, c4⟩ := BX.out.cells
  have C := Lib.hid (wantOpen_any x s wx hn hu hs (hE.ext hbx))
  clear hpx hwx hbx hE
  go_enter Tryz.func69, Tryz.ntmps69
  go_upto_region 1 with fail
  rw [HWX.out, HPX.out]
  go_wp2_with fail
  refine C.out.mono ?_
  clear C
  rintro e w1 ⟨⟨v, rfl, HV⟩, hb1⟩
  have B1 := Lib.hid (HB.out.trans (hb1.mono HB.out.size))
  have BX1 := Lib.hid (BX.out.ext hb1)
  clear hb1 c0 c1 c2 c3 c4
  obtain ⟨r, hr⟩ : ∃ r, openW x s = r := ⟨_, rfl⟩
  rw [hr] at HV KOK K1 K2 ⊢
  clear hr
  obtain ⟨c, l⟩ := r
  cases c with
  | succ c =>
    have HX := Lib.hid (K1.out c rfl)
    rw [show errV E ((c + 1, l) : Nat × List FileB).1 = sentV E c from rfl]
    go_wp2_with fail
    go_ret2
    exact WOpenPost.none HX.out B1.out
  | zero =>
    have ok : TreeOk l := KOK.out rfl
    have HX := Lib.hid (K2.out rfl)
    have HER := Lib.hid ok.er
    rw [show errV E ((0, l) : Nat × List FileB).1 = .nilIface from rfl]
    have C := Lib.hid (packSum_any v l w1 HV.out.1 (by have := ok.few; omega) (fun f hf => (ok.small f hf).1) (HE.out.ext B1.out).1)
    clear ok KOK K1 K2
    go_wp2_with fail
    refine C.out.mono ?_
    clear C
    rintro e w2 ⟨⟨ev, rfl, HI⟩, hb2⟩
    have B2 := Lib.hid (B1.out.trans (hb2.mono B1.out.size))
    have HV2 := Lib.hid (HV.out.ext hb2)
    obtain ⟨_, _, _, _, c4⟩ := (BX1.out.ext hb2).cells
    have cS := (HE.out.ext B2.out).1.1.1.eSum
    obtain rfl : ev = .nilIface := HI.out.zero (by rw [HER.out])
    obtain ⟨n, hnn⟩ : ∃ n : Int, ((sumL (packT l) : Nat) : Int) = n := ⟨_, rfl⟩
    have HN : Hid (treeSum l = n) := hnn
    rw [hnn]
    clear hnn HI HER hb2
    by_cases hne : n = x.sum
    · have HY : Hid (rightW x s = (0, l)) := by show _ = _; rw [HX.out, if_neg (by simpa [HN.out] using hne)]
      subst hne
      have q := beq_self_eq_true x.sum
      clear HX
      go_wp2_with fail
      go_ret2
      exact ⟨⟨_, by rw [HY.out]; rfl, by rw [HY.out]; exact HV2.out.low HB.out.size⟩, B2.out⟩
    · have HY : Hid (rightW x s = (12, [])) := by show _ = _; rw [HX.out, if_pos (by simpa [HN.out] using hne)]
      have q : (n == x.sum) = false := beq_eq_false_iff_ne.2 hne
      clear HX hne
      go_wp2_with fail
      go_ret2
      exact WOpenPost.none HY.out B2.out
end Go.Proofs.YtomceddfbfpjjaaGreatDoor

namespace Go.Proofs.YtomceddfbfpjjaaGreatDoor
open Go Go.RowKit

section
variable {a b c d e : ByteArray}
end
/-- What want.Read hands back. -/
def WReadPost (E : Nat → Addr) (s : ByteArray) (w : World) (e : Ending) (w' : World) : Prop :=
  e = .returned (.tuple #[wV (readW (bl s)).2, errV E (readW (bl s)).1]) ∧ Below w.heap.size w w'
theorem WReadPost.of {E : Nat → Addr} {s : ByteArray} {w w' : World} {c : Nat} {y : WantB} (h : readW (bl s) = (c, y)) (hb : Below w.heap.size w w') :
    WReadPost E s w (.returned (.tuple #[.agg #[.string y.name, .string y.url, .string y.kind, .int .i64 y.strip, .int .i64 y.sum], errV E c])) w' := ⟨by rw [h]; rfl, hb⟩

end Go.Proofs.YtomceddfbfpjjaaGreatDoor

namespace Go.Proofs.YtomceddfbfpjjaaGreatDoor
open Go Go.RowKit

/-- 1: what is wanted is too long for a law. -/
def longW (x : WantB) : Nat := if 30 < x.name.size ∨ 120 < x.url.size ∨ 20 < x.kind.size then 1 else 0

set_option maxHeartbeats 1000000 in
set_option maxRecDepth 100000 in
theorem longWant_any (x : WantB) (w : World) :
    Calls Tryz.prog 29 #[.agg #[.string x.name, .string x.url, .string x.kind, .int .i64 x.strip, .int .i64 x.sum]] w fun e w' => e = .returned (.int .i64 (longW x)) ∧ Below w.heap.size w w' := by
  obtain ⟨px, hpx⟩ : ∃ px, w.heap.size = px := ⟨_, rfl⟩
  obtain ⟨wx, hwx⟩ : ∃ wx, w.alloc (.cells #[.string x.name, .string x.url, .string x.kind, .int .i64 x.strip, .int .i64 x.sum] 25) = wx := ⟨_, rfl⟩
  have hbx : Below w.heap.size w wx := by rw [← hwx]; exact (Below.refl _ _).alloc (Nat.le_refl _) _
  have BX := Lib.hid (show WBox wx px x by rw [← hwx, ← hpx]; exact WBox.new w x)
  have HB := Lib.hid hbx
  have HWX := Lib.hid hwx
  have HPX := Lib.hid hpx
  obtain ⟨c0, c1, c2, _, _⟩ := BX.out.cells
  clear hpx hwx hbx
  go_enter Tryz.func29, Tryz.ntmps29
  go_upto_region 1 with fail
  rw [HWX.out, HPX.out]
  by_cases h1 : 30 < x.name.size
  · have HL : Hid (longW x = 1) := by show _ = _; unfold longW; rw [if_pos (.inl h1)]
    go_wp2_with fail
    go_ret
    exact ⟨by rw [HL.out]; rfl, HB.out⟩
  · by_cases h2 : 120 < x.url.size
    · have HL : Hid (longW x = 1) := by show _ = _; unfold longW; rw [if_pos (.inr (.inl h2))]
      go_wp2_with fail
      go_ret
      exact ⟨by rw [HL.out]; rfl, HB.out⟩
    · by_cases h3 : 20 < x.kind.size
      · have HL : Hid (longW x = 1) := by show _ = _; unfold longW; rw [if_pos (.inr (.inr h3))]
        go_wp2_with fail
        go_ret
        exact ⟨by rw [HL.out]; rfl, HB.out⟩
      · have HL : Hid (longW x = 0) := by show _ = _; unfold longW; rw [if_neg (by omega)]
        go_wp2_with fail
        go_ret
        exact ⟨by rw [HL.out]; rfl, HB.out⟩
end Go.Proofs.YtomceddfbfpjjaaGreatDoor
