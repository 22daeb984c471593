/- A shop's parts are turned one by one: its tape, its held, its fields. What shop.again turns: a shop as Open makes it. slices.Clone of texts: the contract. Rows of rules: one more in a region that draws its order; the tail of a row of texts. shop.ruled: the contract. shop.again: the contract. -/
import Derived.Test.YtcjjbpoaojjojaaGreatDoorJRuleSmallEtc
import Derived.Test.YtcjjbpoaojjojaaGreatDoorJTapePlainEtc
import Derived.Test.YtcjjbpoaojjojaaGreatDoorJTreesUpEtc
import Derived.Test.YtcjjbpoaojjojaaGreatDoorJMirrorUp
import Derived.Laws.NewBlocks
import Derived.Lib.SliceRun
import Derived.Test.YtcjjbpoaojjojaaGreatDoorJRowedEtc
import Derived.Test.YtcjjbpoaojjojaaGreatDoorJFetches
import Derived.Deep.RegionHeld3
import Derived.Test.YtcjjbpoaojjojaaGreatDoorJWantAll
import Derived.Test.YtcjjbpoaojjojaaGreatDoorJLockUpEtc
import Derived.Test.YtcjjbpoaojjojaaGreatDoorJSummed
import Derived.Test.YtcjjbpoaojjojaaGreatDoorJFilesEtc
namespace Go.Proofs.YtcjjbpoaojjojaaGreatDoor
open Go Go.RowKit

theorem kt_map (es : Array MapEntry) (c : Nat) : ¬ TapeRow (.map es c) := by rintro (⟨_, _, h⟩ | ⟨_, _, h⟩) <;> cases h
theorem kt_other (T : TypeId) (h1 : T ≠ 5) (h2 : T ≠ 85) (cs : Array Value) (fz : Nat × Nat) : ¬ TapeRow (.cells cs T fz) := by
  rintro (⟨_, _, h⟩ | ⟨_, _, h⟩)
  · injection h with _ h _; exact h1 h
  · injection h with _ h _; exact h2 h
theorem kh_other (T : TypeId) (h1 : T ≠ 145) (cs : Array Value) (fz : Nat × Nat) : ¬ HeldRow (.cells cs T fz) := by
  rintro (⟨_, _, h⟩ | ⟨_, _, h⟩)
  · cases h
  · injection h with _ h _; exact h1 h
theorem ks_map (es : Array MapEntry) (c : Nat) : ¬ ShopRow (.map es c) := fun ⟨_, _, h⟩ => by cases h
theorem ks_other (T : TypeId) (h1 : T ≠ 138) (cs : Array Value) (fz : Nat × Nat) : ¬ ShopRow (.cells cs T fz) := fun ⟨_, _, h⟩ => by injection h with _ h _; exact h1 h

section
variable {w w' : World} {B nb hb tb sb tn : Nat} {rv lv : Value} {rl : List RuleB} {n : NetB} {S : ShopS} {t : TapeS}
theorem ProgAt.turnTape {t' : TapeS} (h : ProgAt w B nb hb tb sb rv lv rl n S t tn) (hk : Keeps TapeRow B w w') (ht : TapeIs w' B tb t') : ProgAt w' B nb hb tb sb rv lv rl n S t' tn where
  hsb := h.hsb
  shop := hk.keep sb _ h.shop (kt_other _ (by decide) (by decide) _ _)
  rules := h.rules.keeps hk (kt_other _ (by decide) (by decide)) (kt_other _ (by decide) (by decide))
  ruled := h.ruled
  lock := hk.owns h.lock (fun cs => kt_other _ (by decide) (by decide) cs _)
  held := h.held.keeps hk kt_map (kt_other _ (by decide) (by decide)) (fun cs => kt_other _ (by decide) (by decide) cs _) (fun cs => kt_other _ (by decide) (by decide) cs _)
  tape := ht
  net := h.net.keeps hk kt_map (kt_other _ (by decide) (by decide))
  apart := h.apart
theorem ProgAt.turnHeld {hh : HeldB} (h : ProgAt w B nb hb tb sb rv lv rl n S t tn) (hk : KeepsU 2 hb HeldRow B w w') (ht : HeldIs w' B hb hh) : ProgAt w' B nb hb tb sb rv lv rl n { S with held := hh } t tn where
  hsb := h.hsb
  shop := hk.toKeeps.keep sb _ h.shop (kh_other _ (by decide) _ _)
  rules := h.rules.keeps hk.toKeeps (kh_other _ (by decide)) (kh_other _ (by decide))
  ruled := h.ruled
  lock := hk.toKeeps.owns h.lock (fun cs => kh_other _ (by decide) cs _)
  held := ht
  tape := h.tape.keeps hk.toKeeps (kh_other _ (by decide)) (kh_other _ (by decide))
  net := h.net.apartH hk h.apart
  apart := h.apart
theorem shop_set (h : w.heap[sb]? = some (.cells #[.pointer (some ⟨nb, 0, none⟩), rv, lv, .pointer (some ⟨hb, 0, none⟩), .pointer (some ⟨tb, 0, none⟩)] 138 (0, 0))) (x : Value) :
    (w.setCell ⟨sb, 1, none⟩ x).heap[sb]? = some (.cells #[.pointer (some ⟨nb, 0, none⟩), x, lv, .pointer (some ⟨hb, 0, none⟩), .pointer (some ⟨tb, 0, none⟩)] 138 (0, 0)) ∧
    (w.setCell ⟨sb, 2, none⟩ x).heap[sb]? = some (.cells #[.pointer (some ⟨nb, 0, none⟩), rv, x, .pointer (some ⟨hb, 0, none⟩), .pointer (some ⟨tb, 0, none⟩)] 138 (0, 0)) :=
  ⟨by simp [World.setCell, Array.getElem?_modify, h], by simp [World.setCell, Array.getElem?_modify, h]⟩
theorem ProgAt.store (h : ProgAt w B nb hb tb sb rv lv rl n S t tn) (j : Nat) (x : Value) (hBw : B ≤ w.heap.size) : Keeps ShopRow B w (w.setCell ⟨sb, j, none⟩ x) :=
  Keeps.one (grown_set w sb j x) h.hsb hBw h.shop ⟨_, _, rfl⟩
theorem ProgAt.setLock {l : List WantB} {x : Value} (h : ProgAt w B nb hb tb sb rv lv rl n S t tn) (hx : WOwn w B x l) (hBw : B ≤ w.heap.size) : ProgAt (w.setCell ⟨sb, 2, none⟩ x) B nb hb tb sb rv x rl n { S with lock := l } t tn := by
  have hk := h.store 2 x hBw
  exact ⟨h.hsb, (shop_set h.shop x).2, h.rules.keeps hk (ks_other _ (by decide)) (ks_other _ (by decide)), h.ruled, hk.owns hx (fun cs => ks_other _ (by decide) cs _),
    h.held.keeps hk ks_map (ks_other _ (by decide)) (fun cs => ks_other _ (by decide) cs _) (fun cs => ks_other _ (by decide) cs _), h.tape.keeps hk (ks_other _ (by decide)) (ks_other _ (by decide)), h.net.keeps hk ks_map (ks_other _ (by decide)), h.apart⟩
theorem ProgAt.setRules {l : List RuleB} {x : Value} (h : ProgAt w B nb hb tb sb rv lv rl n S t tn) (hx : RulesOwn w B x l) (hBw : B ≤ w.heap.size) : ProgAt (w.setCell ⟨sb, 1, none⟩ x) B nb hb tb sb x lv l n { S with rules := l.map ruleOf } t tn := by
  have hk := h.store 1 x hBw
  exact ⟨h.hsb, (shop_set h.shop x).1, hx.keeps hk (ks_other _ (by decide)) (ks_other _ (by decide)), rfl, hk.owns h.lock (fun cs => ks_other _ (by decide) cs _),
    h.held.keeps hk ks_map (ks_other _ (by decide)) (fun cs => ks_other _ (by decide) cs _) (fun cs => ks_other _ (by decide) cs _), h.tape.keeps hk (ks_other _ (by decide)) (ks_other _ (by decide)), h.net.keeps hk ks_map (ks_other _ (by decide)), h.apart⟩
/-- A shop's own cells. -/
theorem ProgAt.cells (h : ProgAt w B nb hb tb sb rv lv rl n S t tn) : w.cell? ⟨sb, 0, none⟩ = some (.pointer (some ⟨nb, 0, none⟩)) ∧ w.cell? ⟨sb, 1, none⟩ = some rv ∧ w.cell? ⟨sb, 2, none⟩ = some lv ∧ w.cell? ⟨sb, 3, none⟩ = some (.pointer (some ⟨hb, 0, none⟩)) ∧ w.cell? ⟨sb, 4, none⟩ = some (.pointer (some ⟨tb, 0, none⟩)) :=
  ⟨by rw [Lib.cell_of_heap h.shop]; rfl, by rw [Lib.cell_of_heap h.shop]; rfl, by rw [Lib.cell_of_heap h.shop]; rfl, by rw [Lib.cell_of_heap h.shop]; rfl, by rw [Lib.cell_of_heap h.shop]; rfl⟩
theorem ProgAt.froz (h : ProgAt w B nb hb tb sb rv lv rl n S t tn) (j : Nat) : w.frozen? ⟨sb, j, none⟩ = false := Lib.frozen_of_heap h.shop j
end
theorem Keeps.p_tape {B : Nat} {w w' : World} (h : Keeps TapeRow B w w') : Keeps PRow B w w' := h.wide fun _ h => .inr (.inr (.inl h))
theorem Keeps.p_shop {B : Nat} {w w' : World} (h : Keeps ShopRow B w w') : Keeps PRow B w w' := h.wide fun _ h => .inr (.inr (.inr h))
end Go.Proofs.YtcjjbpoaojjojaaGreatDoor

namespace Go.Proofs.YtcjjbpoaojjojaaGreatDoor
open Go Go.RowKit

theorem small_want {w : WantB} (h : wantE w = 0) : SmallW w := by
  obtain ⟨hn, hu, hk, _⟩ := wantE_zero h
  refine ⟨by have := want_name h; omega, ?_, ?_⟩
  · have := link_short hu
    rw [bl_length] at this
    omega
  · have h2 := bl_length w.kind
    unfold wkinds at hk
    simp only [List.mem_cons, List.not_mem_nil, or_false] at hk
    rcases hk with h | h | h <;> rw [h] at h2 <;> (have h3 : kPlain.length = 5 ∧ kPack.length = 4 ∧ kPress.length = 5 := ⟨rfl, rfl, rfl⟩; omega)
theorem LockOk.small {l : List WantB} (h : LockOk l) : ∀ w ∈ l, SmallW w := fun w hw => small_want (h.each w hw)
/-- What records leave is right. -/
structure OpOk (S : ShopS) : Prop where
  rules : (rulesEr S.rules).code = 0
  lock : LockOk S.lock
theorem OpOk.empty : OpOk emptyS := ⟨rfl, lockOk_nil⟩
theorem OpOk.step {S : ShopS} {r : List UInt8} (h : OpOk S) (h0 : (againS S r).1 = 0) : OpOk (againS S r).2 := by
  obtain ⟨k, x, b, hc⟩ : ∃ k x b, Lib.cut r [32] = (k, x, b) := ⟨_, _, _, rfl⟩
  cases b with
  | false => rw [againS_no (by rw [hc])] at h0 ⊢; exact h
  | true =>
    rw [againS_is hc] at h0 ⊢
    by_cases h1 : k = wRule
    · subst h1
      rw [agW_rule] at h0 ⊢
      by_cases he : (rulesEr (S.rules ++ [((cutL 32 x).headD [], (cutL 32 x).tail)])).code ≠ 0
      · rw [if_pos he] at h0; exact absurd h0 he
      · rw [if_neg he]; exact ⟨by simpa using he, h.lock⟩
    by_cases h2 : k = wWant
    · subst h2
      rw [agW_want] at h0 ⊢
      by_cases he : (readW x).1 ≠ 0
      · rw [if_pos he] at h0; cases h0
      · rw [if_neg he] at h0 ⊢; exact ⟨h.rules, setLk_right h.lock h0⟩
    by_cases h3 : k = wUnwant
    · subst h3
      rw [agW_unwant] at h0 ⊢
      exact ⟨h.rules, dropLk_right h.lock h0⟩
    by_cases h4 : k = wHold
    · subst h4
      rw [agW_hold] at h0 ⊢
      by_cases he : (readEr x).code ≠ 0
      · rw [if_pos he] at h0; cases h0
      · rw [if_neg he]; exact ⟨h.rules, h.lock⟩
    by_cases h5 : k = wDrop
    · subst h5
      rw [agW_drop] at h0 ⊢
      cases hn : numOf x 10 with
      | none => rw [hn] at h0; cases h0
      | some n => exact ⟨h.rules, h.lock⟩
    · rw [agW_other S x h1 h2 h3 h4 h5] at h0; cases h0

theorem cutL_pos (c : UInt8) (l : List UInt8) : 0 < (cutL c l).length := List.length_pos_iff.2 (cutL_ne c l)
theorem read_right {s : List UInt8} (h : (readEr s).code = 0) : (treeEr (readT s)).code = 0 := by
  have h20 : ¬ 20000 < s.length := fun h2 => by rw [(readEr_big h2).1] at h; cases h
  obtain ⟨acc, ok, ha⟩ : ∃ acc ok, allL s = (acc, ok) := ⟨_, _, rfl⟩
  cases ok with
  | false => rw [(readEr_bad h20 ha).1] at h; cases h
  | true =>
    obtain ⟨h1, h2⟩ := readEr_all h20 ha
    rw [h1] at h
    rw [h2, if_pos h]
    exact h
theorem num_ten {l : List UInt8} {n : Nat} (h : numOf l 10 = some n) : n < 10000000000 := by
  obtain ⟨h1, h2⟩ := numOf_some h
  have h3 := valD_lt (Lib.decDigits n) 0 (decDigits_isD n)
  rw [valD_dec, ← h1] at h3
  have h4 : 10 ^ l.length ≤ 10 ^ 10 := Nat.pow_le_pow_right (by decide) h2
  omega
theorem dropHd_le (h : HeldB) (n : Int) : (dropH h n).1 ≤ 13 := by unfold dropH; split <;> exact Nat.le_of_ble_eq_true rfl
theorem IsErr.shopCell {E : Nat → Addr} {w : World} {v : Value} {er : Er} {sb : Nat} {p : Option Addr} (h : IsErr E w v er) (hc : w.cell? ⟨sb, 0, none⟩ = some (.pointer p)) (j : Nat) (x : Value) : IsErr E (w.setCell ⟨sb, j, none⟩ x) v er := by
  rcases h with h | h | ⟨k, a', b, hk, h1, h2, h3, h4⟩
  · exact .inl h
  · exact .inr (.inl h)
  · have hne : b ≠ sb := by
      rintro rfl
      rw [hc] at h3
      cases h3
    have e : ∀ i, (w.setCell ⟨sb, j, none⟩ x).cell? ⟨b, i, none⟩ = w.cell? ⟨b, i, none⟩ := fun i => World.cell?_of_block (w := w) (a := ⟨b, i, none⟩) (Below.heap_setCell _ _ _ _ hne)
    exact .inr (.inr ⟨k, a', b, hk, h1, h2, by rw [e]; exact h3, by rw [e]; exact h4⟩)

/-- A shop as Open makes it: all that a record turns lies from B on. -/
structure AgAt (w : World) (B hb sb : Nat) (np tp rv lv : Value) (rl : List RuleB) (S : ShopS) : Prop where
  hsb : B ≤ sb
  shop : w.heap[sb]? = some (.cells #[np, rv, lv, .pointer (some ⟨hb, 0, none⟩), tp] 138 (0, 0))
  rules : RulesOwn w B rv rl
  ruled : rl.map ruleOf = S.rules
  lock : WOwn w B lv S.lock
  held : HeldIs w B hb S.held
def AgIs (w : World) (B hb sb : Nat) (np tp : Value) (S : ShopS) : Prop := ∃ rv lv rl, AgAt w B hb sb np tp rv lv rl S
section
variable {w w' : World} {B hb sb : Nat} {np tp rv lv : Value} {rl : List RuleB} {S : ShopS}
theorem AgAt.below (h : AgAt w B hb sb np tp rv lv rl S) (hb2 : Below w.heap.size w w') : AgAt w' B hb sb np tp rv lv rl S where
  hsb := h.hsb
  shop := by rw [hb2.block sb (Array.getElem?_eq_some_iff.1 h.shop).1]; exact h.shop
  rules := h.rules.ext hb2
  ruled := h.ruled
  lock := h.lock.ext hb2
  held := h.held.below hb2
theorem AgAt.turnHeld {hh : HeldB} (h : AgAt w B hb sb np tp rv lv rl S) (hk : KeepsU 2 hb HeldRow B w w') (ht : HeldIs w' B hb hh) : AgAt w' B hb sb np tp rv lv rl { S with held := hh } where
  hsb := h.hsb
  shop := hk.toKeeps.keep sb _ h.shop (kh_other _ (by decide) _ _)
  rules := h.rules.keeps hk.toKeeps (kh_other _ (by decide)) (kh_other _ (by decide))
  ruled := h.ruled
  lock := hk.toKeeps.owns h.lock (fun cs => kh_other _ (by decide) cs _)
  held := ht
theorem ag_set (h : w.heap[sb]? = some (.cells #[np, rv, lv, .pointer (some ⟨hb, 0, none⟩), tp] 138 (0, 0))) (x : Value) :
    (w.setCell ⟨sb, 1, none⟩ x).heap[sb]? = some (.cells #[np, x, lv, .pointer (some ⟨hb, 0, none⟩), tp] 138 (0, 0)) ∧
    (w.setCell ⟨sb, 2, none⟩ x).heap[sb]? = some (.cells #[np, rv, x, .pointer (some ⟨hb, 0, none⟩), tp] 138 (0, 0)) :=
  ⟨by simp [World.setCell, Array.getElem?_modify, h], by simp [World.setCell, Array.getElem?_modify, h]⟩
theorem AgAt.store (h : AgAt w B hb sb np tp rv lv rl S) (j : Nat) (x : Value) (hBw : B ≤ w.heap.size) : Keeps ShopRow B w (w.setCell ⟨sb, j, none⟩ x) :=
  Keeps.one (grown_set w sb j x) h.hsb hBw h.shop ⟨_, _, rfl⟩
theorem AgAt.setLock {l : List WantB} {x : Value} (h : AgAt w B hb sb np tp rv lv rl S) (hx : WOwn w B x l) (hBw : B ≤ w.heap.size) : AgAt (w.setCell ⟨sb, 2, none⟩ x) B hb sb np tp rv x rl { S with lock := l } := by
  have hk := h.store 2 x hBw
  exact ⟨h.hsb, (ag_set h.shop x).2, h.rules.keeps hk (ks_other _ (by decide)) (ks_other _ (by decide)), h.ruled, hk.owns hx (fun cs => ks_other _ (by decide) cs _),
    h.held.keeps hk ks_map (ks_other _ (by decide)) (fun cs => ks_other _ (by decide) cs _) (fun cs => ks_other _ (by decide) cs _)⟩
theorem AgAt.setRules {l : List RuleB} {x : Value} (h : AgAt w B hb sb np tp rv lv rl S) (hx : RulesOwn w B x l) (hBw : B ≤ w.heap.size) : AgAt (w.setCell ⟨sb, 1, none⟩ x) B hb sb np tp x lv l { S with rules := l.map ruleOf } := by
  have hk := h.store 1 x hBw
  exact ⟨h.hsb, (ag_set h.shop x).1, hx.keeps hk (ks_other _ (by decide)) (ks_other _ (by decide)), rfl, hk.owns h.lock (fun cs => ks_other _ (by decide) cs _),
    h.held.keeps hk ks_map (ks_other _ (by decide)) (fun cs => ks_other _ (by decide) cs _) (fun cs => ks_other _ (by decide) cs _)⟩
theorem AgAt.cells (h : AgAt w B hb sb np tp rv lv rl S) : w.cell? ⟨sb, 0, none⟩ = some np ∧ w.cell? ⟨sb, 1, none⟩ = some rv ∧ w.cell? ⟨sb, 2, none⟩ = some lv ∧ w.cell? ⟨sb, 3, none⟩ = some (.pointer (some ⟨hb, 0, none⟩)) ∧ w.cell? ⟨sb, 4, none⟩ = some tp :=
  ⟨by rw [Lib.cell_of_heap h.shop]; rfl, by rw [Lib.cell_of_heap h.shop]; rfl, by rw [Lib.cell_of_heap h.shop]; rfl, by rw [Lib.cell_of_heap h.shop]; rfl, by rw [Lib.cell_of_heap h.shop]; rfl⟩
theorem AgAt.froz (h : AgAt w B hb sb np tp rv lv rl S) (j : Nat) : w.frozen? ⟨sb, j, none⟩ = false := Lib.frozen_of_heap h.shop j
end
/-- What again hands back, and leaves. -/
def AgPost (E : Nat → Addr) (B hb sb : Nat) (np tp : Value) (r : Nat × ShopS) (w : World) (e : Ending) (w' : World) : Prop :=
  (∃ ev er, e = .returned ev ∧ Hid (IsErr E w' ev er) ∧ er.code = r.1) ∧ Hid (r.1 = 0 → AgIs w' B hb sb np tp r.2) ∧ Below B w w'
end Go.Proofs.YtcjjbpoaojjojaaGreatDoor

namespace Go.Proofs.YtcjjbpoaojjojaaGreatDoor
open Go Go.RowKit Go.Lib

set_option maxHeartbeats 1000000 in
set_option maxRecDepth 100000 in
theorem cloneStrs_any (v : Value) (l : List ByteArray) (w : World) (hn : l.length ≤ 1000000) (hv : RowP w v l) :
    Calls Tryz.prog 163 #[v] w fun e w' => (∃ ov, e = .returned ov ∧ Hid (w'.ownsRow w.heap.size 9 1 ov l.length (l.map Value.string))) ∧ Below w.heap.size w w' := by
  obtain ⟨i0, hi0, hz0, hz1, hz2⟩ := info_parts Tryz.infoW
  have hq : ∀ (W : World) (a : Option Addr) (n c : Nat), (binOp .eql 22 (.slice a n c) (.slice none 0 0)).run Tryz.prog W = .ok (.bool a.isNone) W := fun W a n c => Go.Lib.run_eql_slice_nil W _ _ a n c 0 0 Tryz.underlying22
  obtain ⟨ao, cap, rfl, h1, h2, h3, H4⟩ := hv
  cases ao with
  | none =>
    obtain rfl := h3 rfl
    have h0 : l = [] := List.eq_nil_of_length_eq_zero (by omega)
    subst h0
    clear H4
    go_enter Tryz.func163, Tryz.ntmps163
    go_wp2_with fail
    go_ret
    exact ⟨⟨_, rfl, World.ownsRow_nil _ _ _ _⟩, Below.refl _ _⟩
  | some ad =>
    have HM := Lib.hid H4
    clear H4 h3
    go_enter Tryz.func163, Tryz.ntmps163
    go_wp2_with (at_builtin; refine wpList_append_own _ rfl _ _ 22 rfl w.heap.size 9 i0 (.string ⟨#[]⟩) 1 16 Tryz.underlying22 hi0 hz0 hz1 hz2 rfl (by decide) _ 0 _ rfl (World.ownsRow_made w #[] 0 (Nat.le_refl _) (Nat.zero_le _) rfl) ad l.length cap (l.map Value.string) rfl (by simp) ?c1 ?c2 ?c3 ?c4 ?c5 ?_)
    case c1 =>
      intro j u hj
      rw [List.getElem?_map] at hj
      cases ht2 : l[j]? with
      | none => rw [ht2] at hj; cases hj
      | some t =>
        rw [ht2] at hj
        obtain rfl := Option.some.inj hj
        obtain ⟨hj2, ht3⟩ := List.getElem?_eq_some_iff.1 ht2
        obtain ⟨b2, off2, e, hbl2, hc2⟩ := HM.out j hj2
        obtain rfl := Option.some.inj e
        rw [Addr.add_lit]
        have := hc2 j hj2
        rw [ht3] at this
        exact cell?_alloc_some _ this
    case c2 => intro u hu; obtain ⟨y, _, rfl⟩ := List.mem_map.1 hu; rfl
    case c3 => rw [maxLen_eq]; omega
    case c4 => omega
    case c5 => simp
    intro v' w' hown hgrow _
    have hb : Below w.heap.size w w' := ((Below.refl _ w).alloc (Nat.le_refl _) _).grown hgrow (by simp) (by intro k hk; simp [Value.ownBlock] at hk; omega)
    have H : Hid (w'.ownsRow w.heap.size 9 1 v' l.length (l.map Value.string)) := by
      show w'.ownsRow _ _ _ _ _ _
      simpa using hown
    clear hown hgrow HM
    go_wp2_with fail
    go_ret
    exact ⟨⟨_, rfl, H⟩, hb⟩
end Go.Proofs.YtcjjbpoaojjojaaGreatDoor

namespace Go.Proofs.YtcjjbpoaojjojaaGreatDoor
open Go Go.RowKit

def RuleRow (o : Obj) : Prop := ∃ cs fz, o = .cells cs 58 fz
theorem ku_map (es : Array MapEntry) (c : Nat) : ¬ RuleRow (.map es c) := fun ⟨_, _, h⟩ => by cases h
theorem ku_other (T : TypeId) (h1 : T ≠ 58) (cs : Array Value) (fz : Nat × Nat) : ¬ RuleRow (.cells cs T fz) := fun ⟨_, _, h⟩ => by injection h with _ h _; exact h1 h
theorem rules_grown {w w' : World} {B n : Nat} {v : Value} {xs : List Value} (h : w.ownsRow B 58 2 v n xs) (hg : w.grownBy w' v.ownBlock) (hB : B ≤ w.heap.size) : Keeps RuleRow B w w' := by
  refine ⟨(Below.refl B w).grown hg hB (fun k hk => (h.lt k hk).1), fun k o hk ho => ?_⟩
  rw [hg.block k (Array.getElem?_eq_some_iff.1 hk).1 (fun e => ho ?_)]; · exact hk
  rcases h.2 with ⟨rfl, _⟩ | ⟨g, cap, cur, rfl, _, hgg, _⟩
  · simp [Value.ownBlock] at e
  · simp only [Value.ownBlock, Option.some.injEq] at e
    subst e
    rw [hgg] at hk
    injection hk with hk
    exact ⟨_, _, hk.symm⟩
/-- In a region that draws its order: one rule is appended. -/
theorem step_append_rule {w : World} {ops : Array Oper} {o : Oper} {a : Act} {K : Act → World → Prop} {Q : Exit → Act → World → Prop} {E : Prop} (hgd : o.guard = none) (s x : Operand)
    (ho : o.op = Op.call { callee := Callee.builtin Builtin.append, args := #[s, x], argTypes := #[105, 105] })
    (base : Nat) (v : Value) (k : Nat) (xs : List Value) (hs : a.eval s = v) (hown : w.ownsRow base 58 2 v k xs) (f : ByteArray) (tv : Value) (ht : tv.oneCell' = true) (g : Nat) (hx : a.eval x = .slice (some ⟨g, 0, none⟩) 1 1)
    (hc0 : w.cell? ⟨g, 0, none⟩ = some (.string f)) (hc1 : w.cell? ⟨g, 1, none⟩ = some tv) (hlen : k ≤ 100000) (hbase : base ≤ w.heap.size)
    (hK : ∀ v' w', Hid (w'.ownsRow base 58 2 v' (k + 1) (xs ++ [.string f, tv])) → Hid (w.grownBy w' v.ownBlock) → K (a.put o.dst v') w') :
    if Region.wanted o (yielded ops a.tmps) = true then Oper.wp Tryz.prog o a w K Q else E := by
  obtain ⟨i0, hi0, hz0, hz1, hz2⟩ := info_parts Tryz.infoR
  refine step_append_own hgd s x 105 ho base 58 i0 (.agg #[.string ⟨#[]⟩, .slice none 0 0]) 2 40 Tryz.underlying105 hi0 hz0 hz1 hz2 rfl (by decide) v k xs hs hown ⟨g, 0, none⟩ 1 1 [.string f, tv] hx rfl ?_ ?_ ?_ ?_ hbase ?_
  · intro j u hj
    match j, hj with
    | 0, hj => simp at hj; subst hj; exact hc0
    | 1, hj => simp at hj; subst hj; exact hc1
    | j + 2, hj => simp at hj
  · intro u hu
    simp at hu
    rcases hu with rfl | rfl
    · rfl
    · exact ht
  · rw [maxLen_eq]; omega
  · omega
  · intro v' w' h1 h2
    exact hK v' w' h1 h2
theorem rule_new (w : World) (f : ByteArray) (tv : Value) : (w.alloc (.cells #[.string f, tv] 58)).cell? ⟨w.heap.size, 0, none⟩ = some (.string f) ∧ (w.alloc (.cells #[.string f, tv] 58)).cell? ⟨w.heap.size, 1, none⟩ = some tv :=
  ⟨by rw [World.cell?_alloc_at _ _ _ _ rfl]; rfl, by rw [World.cell?_alloc_at _ _ _ _ rfl]; rfl⟩
/-- The tail of a row of texts, as an operation gives it. -/
theorem strs_behind (g n : Nat) (hn : 1 ≤ n) : ∃ rv, (∀ W : World, (Instr.slice 22 (.slice (some ⟨g, 0, none⟩) n n) (some (.int .i64 1)) none none).run Tryz.prog W = .ok rv W) ∧
    (∃ a, rv = .slice a (n - 1) (n - 1)) ∧ ∀ (W : World) (z : ByteArray) (zt : List ByteArray), zt.length + 1 = n → n ≤ maxLen → StrsAt W g (z :: zt) → RowP W rv zt := by
  refine ⟨.slice (if n = 1 then some ⟨g, 0, none⟩ else some ⟨g, 1, none⟩) (n - 1) (n - 1), fun W => ?_, ⟨_, rfl⟩, fun W z zt hz hm hs => ?_⟩
  · have h := run_slice_l (P := Tryz.prog) W 22 (some ⟨g, 0, none⟩) n n (by kernel_rfl) .i64 ((1 : Nat) : Int) (by omega) (by omega)
    refine Eq.trans h ?_
    by_cases h1 : n = 1 <;> simp [sliced, go_sem, h1]
  · subst hz
    refine ⟨_, zt.length, rfl, Nat.le_refl _, by omega, ?_, fun i hi => ?_⟩
    · intro h
      split at h <;> cases h
    · rw [if_neg (by omega)]
      refine ⟨g, 1, rfl, hs.1, fun k hk => ?_⟩
      have := hs.2 (k + 1) (by simp; omega)
      rw [Nat.add_comm 1 k]
      simpa using this
section
variable {w w' w2 : World} {B hb sb : Nat} {np tp rv lv : Value} {rl : List RuleB} {S : ShopS}
theorem AgAt.ruled2 {l : List RuleB} {x : Value} (h : AgAt w B hb sb np tp rv lv rl S) (hk : Keeps RuleRow B w w') (hb2 : Below w'.heap.size w' w2) (hx : RulesOwn w' B x l) (hBw : B ≤ w.heap.size) :
    AgAt (w2.setCell ⟨sb, 1, none⟩ x) B hb sb np tp x lv l { S with rules := l.map ruleOf } ∧ w2.cell? ⟨sb, 0, none⟩ = some np ∧ w2.cell? ⟨sb, 1, none⟩ = some rv ∧ w2.frozen? ⟨sb, 1, none⟩ = false := by
  have hs1 := hk.keep sb _ h.shop (ku_other _ (by decide) _ _)
  have hs2 : w2.heap[sb]? = some (.cells #[np, rv, lv, .pointer (some ⟨hb, 0, none⟩), tp] 138 (0, 0)) := (hb2.block sb (Array.getElem?_eq_some_iff.1 hs1).1).trans hs1
  have hB2 : B ≤ w2.heap.size := Nat.le_trans hBw (Nat.le_trans hk.below.size hb2.size)
  have hk3 : Keeps ShopRow B w2 (w2.setCell ⟨sb, 1, none⟩ x) := Keeps.one (grown_set w2 sb 1 x) h.hsb hB2 hs2 ⟨_, _, rfl⟩
  have hl2 : WOwn w2 B lv S.lock := WOwn.ext (hk.owns h.lock (fun cs => ku_other _ (by decide) cs _)) hb2
  have hh2 : HeldIs w2 B hb S.held := (h.held.keeps hk ku_map (ku_other _ (by decide)) (fun cs => ku_other _ (by decide) cs _) (fun cs => ku_other _ (by decide) cs _)).below hb2
  refine ⟨⟨h.hsb, (ag_set hs2 x).1, (hx.ext hb2).keeps hk3 (ks_other _ (by decide)) (ks_other _ (by decide)), rfl, hk3.owns hl2 (fun cs => ks_other _ (by decide) cs _),
    hh2.keeps hk3 ks_map (ks_other _ (by decide)) (fun cs => ks_other _ (by decide) cs _) (fun cs => ks_other _ (by decide) cs _)⟩, by rw [Lib.cell_of_heap hs2]; rfl, by rw [Lib.cell_of_heap hs2]; rfl, Lib.frozen_of_heap hs2 1⟩
end
/-- A record of a rule. -/
def ruledS (S : ShopS) (l : List (List UInt8)) : Nat × ShopS :=
  if (rulesEr (S.rules ++ [(l.headD [], l.tail)])).code ≠ 0 then ((rulesEr (S.rules ++ [(l.headD [], l.tail)])).code, S)
  else (0, { S with rules := S.rules ++ [(l.headD [], l.tail)] })
theorem ruledS_no {S : ShopS} {l : List RuleB} {r : RuleB} (hl : l.map ruleOf = S.rules) (h : (rulesEr ((l ++ [r]).map ruleOf)).code ≠ 0) : ruledS S (bl r.1 :: r.2.map bl) = ((rulesEr ((l ++ [r]).map ruleOf)).code, S) := by
  have e : S.rules ++ [((bl r.1 :: r.2.map bl).headD [], (bl r.1 :: r.2.map bl).tail)] = (l ++ [r]).map ruleOf := by rw [← hl, List.map_append]; rfl
  unfold ruledS
  rw [e, if_pos h]
theorem ruledS_ok {S : ShopS} {l : List RuleB} {r : RuleB} (hl : l.map ruleOf = S.rules) (h : (rulesEr ((l ++ [r]).map ruleOf)).code = 0) : ruledS S (bl r.1 :: r.2.map bl) = (0, { S with rules := (l ++ [r]).map ruleOf }) := by
  have e : S.rules ++ [((bl r.1 :: r.2.map bl).headD [], (bl r.1 :: r.2.map bl).tail)] = (l ++ [r]).map ruleOf := by rw [← hl, List.map_append]; rfl
  unfold ruledS
  rw [e, if_neg (by rw [h]; simp)]
end Go.Proofs.YtcjjbpoaojjojaaGreatDoor

namespace Go.Proofs.YtcjjbpoaojjojaaGreatDoor
open Go Go.RowKit

set_option maxHeartbeats 4000000 in
set_option maxRecDepth 100000 in
theorem shopRuled_any {E : Nat → Addr} (B hb sb : Nat) (p q : Option Addr) (S : ShopS) (rv lv : Value) (rl : List RuleB) (g : Nat) (zs : List ByteArray) (w : World) (hA : AgAt w B hb sb (.pointer p) (.pointer q) rv lv rl S) (hok : OpOk S) (hz0 : 0 < zs.length) (hsz : ∀ z ∈ zs, z.size ≤ 30000) (hzn : zs.length ≤ 30000) (hst : StrsAt w g zs) (hne : rv.ownBlock ≠ some g) (hBw : B ≤ w.heap.size) (hE : ∀ W, Below B w W → FtEnv E W) :
    Calls Tryz.prog 88 #[.pointer (some ⟨sb, 0, none⟩), .slice (some ⟨g, 0, none⟩) zs.length zs.length] w (AgPost E B hb sb (.pointer p) (.pointer q) (ruledS S (zs.map bl)) w) := by
  obtain ⟨z0, zt, rfl⟩ : ∃ z0 zt, zs = z0 :: zt := match zs, hz0 with | z :: t, _ => ⟨z, t, rfl⟩
  obtain ⟨hfew, hsm⟩ := rules_small (l := rl) (by rw [hA.ruled]; exact hok.rules)
  obtain ⟨n, hn⟩ : ∃ n, (z0 :: zt).length = n := ⟨_, rfl⟩
  have hn1 : zt.length + 1 = n := hn
  have hmx : n ≤ maxLen := by rw [maxLen_eq]; omega
  have hzt30 : zt.length ≤ 30000 := by omega
  obtain ⟨tv, hsl, ⟨ta, rfl⟩, htl⟩ := strs_behind g n (by omega)
  obtain ⟨c0, c1, c2, c3, c4⟩ := hA.cells
  have i0 : w.cell? ⟨g, 0, none⟩ = some (.string z0) := hst.2 0 (by simp)
  have hsbl : sb < w.heap.size := (Array.getElem?_eq_some_iff.1 hA.shop).1
  have KS : Hid (∀ W, Below w.heap.size w W → W.cell? ⟨sb, 1, none⟩ = some rv ∧ W.cell? ⟨g, 0, none⟩ = some (.string z0)) := fun W hW => ⟨(hW.cell (p := ⟨sb, 1, none⟩) hsbl).trans c1, (hW.cell (p := ⟨g, 0, none⟩) hst.1).trans i0⟩
  have C : Hid (∀ W, Below w.heap.size w W → Calls Tryz.prog 163 #[.slice ta (n - 1) (n - 1)] W fun e w' => (∃ ov, e = .returned ov ∧ Hid (w'.ownsRow W.heap.size 9 1 ov zt.length (zt.map Value.string))) ∧ Below W.heap.size W w') :=
    fun W hW => cloneStrs_any _ zt W (by omega) (htl W z0 zt hn1 hmx (hst.ext hW))
  obtain ⟨tvs, t1, t2, t3⟩ := hA.rules
  have HRU := Lib.hid hA.ruled
  have HA := Lib.hid hA
  have HR : Hid (∀ W, Below w.heap.size w W → W.ownsRow B 58 2 rv rl.length (flatR rl tvs)) := fun W hW => owns_below t2 hW
  have HR3 : Hid (∀ W, Below w.heap.size w W → ∀ j, (hj : j < rl.length) → ∃ tv, tvs[j]? = some tv ∧ W.ownsRow B 9 1 tv rl[j].2.length (rl[j].2.map Value.string)) := fun W hW j hj => by
    obtain ⟨tv, h1, h2⟩ := t3 j hj
    exact ⟨tv, h1, owns_below h2 hW⟩
  have KD : Hid (∀ W W2, Below w.heap.size w W → W.grownBy W2 rv.ownBlock → W2.cell? ⟨sb, 1, none⟩ = some rv ∧ W2.cell? ⟨g, 0, none⟩ = some (.string z0)) := fun W W2 hW hG => by
    have hk := rules_grown (HR.out W hW) hG (Nat.le_trans hBw hW.size)
    have hs := hk.keep sb _ ((hW.block sb hsbl).trans HA.out.shop) (ku_other _ (by decide) _ _)
    have hg2 := hG.block g (Nat.lt_of_lt_of_le hst.1 hW.size) (fun e => hne e.symm)
    refine ⟨by rw [Lib.cell_of_heap hs]; rfl, ?_⟩
    rw [World.cell?_of_block (w := W) (a := ⟨g, 0, none⟩) hg2]
    exact (KS.out W hW).2
  have HE := Lib.hid hE
  have HSM := Lib.hid hsm
  have HSZ := Lib.hid hsz
  have HT1 := Lib.hid t1
  have hdr : Below w.heap.size w w.drew := below_drewN _ _ 1
  have hlt : (0 : Int) < (n : Int) := by omega
  have hlt0 : 0 < n := by omega
  rw [hn]
  clear t1 t2 t3 hA hE hsm hsz htl hst hok c0 c1 c2 c3 c4 i0 hn hmx hz0
  go_enter Tryz.func88, Tryz.ntmps88
  go_wp2_with fail
  go_region_held3 (fun W : World => W.cell? ⟨sb, 1, none⟩ = some rv ∧ W.cell? ⟨g, 0, none⟩ = some (.string z0)) (first | exact KS.out _ hdr | exact KS.out _ hb1w | exact KS.out _ (hb1w.alloc hb1w.size _) | exact d8)
    (first
      | (go_at_call 163; refine (C.out _ hdr).mono ?_; rintro e w1 ⟨⟨ov, rfl, HO⟩, hb1⟩; obtain ⟨oa, oc, rfl⟩ := row_shape HO.out; have hb1w := hdr.trans (hb1.mono hdr.size))
      | (refine step_append_rule (by rfl) _ _ (by rfl) B rv rl.length (flatR rl tvs) (by rfl) (HR.out _ (hb1w.alloc hb1w.size _)) z0 (.slice oa zt.length oc) rfl w1.heap.size (by rfl) (rule_new w1 z0 _).1 (rule_new w1 z0 _).2 (by omega) (Nat.le_trans hBw (hb1w.alloc hb1w.size _).size) ?_; intro v8 w8 HO8 HG8; have d8 := KD.out _ w8 (hb1w.alloc hb1w.size _) HG8.out)
      | fail)
  all_goals
    obtain ⟨a8, k8, rfl⟩ := row_shape HO8.out
    have hbA : Below w.heap.size w (w1.alloc (.cells #[.string z0, .slice oa zt.length oc] 58)) := hb1w.alloc hb1w.size _
    have hal : Below w1.heap.size w1 (w1.alloc (.cells #[.string z0, .slice oa zt.length oc] 58)) := (Below.refl _ _).alloc (Nat.le_refl _) _
    have hR8 : RulesOwn w8 B (.slice a8 (rl.length + 1) k8) (rl ++ [(z0, zt)]) := RulesOwn.snoc (r := (z0, zt)) HT1.out (HR.out _ hbA) (HR3.out _ hbA) (own_mono (owns_below HO.out hal) hBw) HO8.out HG8.out
    have HK8 : Keeps RuleRow B w w8 := (Keeps.of hbA hBw).trans (rules_grown (HR.out _ hbA) HG8.out (Nat.le_trans hBw hbA.size))
    have HFA : ∀ r ∈ rl ++ [(z0, zt)], Fair r := fun r hr => by
      rcases List.mem_append.1 hr with hr | hr
      · exact (HSM.out r hr).fair
      · obtain rfl := List.mem_singleton.1 hr
        exact ⟨HSZ.out z0 (by simp), by show zt.length ≤ 30000; omega, fun t ht => HSZ.out t (by simp [ht])⟩
    have CM := mirrorCheck_any _ (rl ++ [(z0, zt)]) w8 (by simp; omega) HFA hR8.row (HE.out w8 HK8.below).2
    have h1 := @ruledS_no S rl (z0, zt) HRU.out
    have h2 := @ruledS_ok S rl (z0, zt) HRU.out
    unfold CheckPost at CM
    obtain ⟨er, her⟩ : ∃ er, rulesEr ((rl ++ [(z0, zt)]).map ruleOf) = er := ⟨_, rfl⟩
    rw [her] at CM h1 h2
    have HC := Lib.hid CM
    have H1 := Lib.hid h1
    have H2 := Lib.hid h2
    have HR9 := Lib.hid hR8
    have HK9 := Lib.hid HK8
    clear her CM h1 h2 HFA HK8 hR8 hbA hal HO HO8 HG8 d8 hb1 hb1w KS KD C HR HR3 hsl HT1
    go_wp2_with fail
    refine HC.out.mono ?_
    clear HC
    rintro e w9 ⟨⟨ev, rfl, HI⟩, hb9⟩
    obtain ⟨hA9, c0, c1, f1⟩ := HA.out.ruled2 HK9.out hb9 HR9.out hBw
    have hB8 : B ≤ w8.heap.size := Nat.le_trans hBw HK9.out.below.size
    have hbz := HK9.out.below.trans (hb9.mono hB8)
    have HA9 := Lib.hid hA9
    clear hA9 hb9
    by_cases hz : er.code = 0
    · obtain rfl : ev = .nilIface := HI.out.zero hz
      have HY := Lib.hid (H2.out hz)
      have hbs : Below B w (w9.setCell ⟨sb, 1, none⟩ (.slice a8 (rl.length + 1) k8)) := hbz.setCell (p := ⟨sb, 1, none⟩) HA.out.hsb _
      clear hz HI H1 H2
      go_wp2_with fail
      go_ret
      show AgPost E B hb sb (.pointer p) (.pointer q) (ruledS S (bl z0 :: zt.map bl)) w _ _
      rw [HY.out]
      exact ⟨⟨_, ⟨0, none⟩, rfl, .inl ⟨rfl, rfl⟩, rfl⟩, fun _ => ⟨_, _, _, HA9.out⟩, hbs⟩
    · have HY := Lib.hid (H1.out hz)
      have HZ := Lib.hid hz
      obtain ⟨ty, y, rfl⟩ := HI.out.some_inv hz
      clear hz H1 H2 f1 c0 c1
      go_wp2_with fail
      go_ret
      show AgPost E B hb sb (.pointer p) (.pointer q) (ruledS S (bl z0 :: zt.map bl)) w _ _
      rw [HY.out]
      exact ⟨⟨_, er, rfl, HI, rfl⟩, fun h => absurd h HZ.out, hbz⟩
end Go.Proofs.YtcjjbpoaojjojaaGreatDoor

namespace Go.Proofs.YtcjjbpoaojjojaaGreatDoor
open Go Go.RowKit

theorem word_eqb1 (k : ByteArray) : (k.toList == [114, 117, 108, 101]) = decide (bl k = wRule) := by rw [toList_bl, Bool.eq_iff_iff, beq_iff_eq, decide_eq_true_iff]; rfl
theorem word_eqb2 (k : ByteArray) : (k.toList == [119, 97, 110, 116]) = decide (bl k = wWant) := by rw [toList_bl, Bool.eq_iff_iff, beq_iff_eq, decide_eq_true_iff]; rfl
theorem word_eqb3 (k : ByteArray) : (k.toList == [117, 110, 119, 97, 110, 116]) = decide (bl k = wUnwant) := by rw [toList_bl, Bool.eq_iff_iff, beq_iff_eq, decide_eq_true_iff]; rfl
theorem word_eqb4 (k : ByteArray) : (k.toList == [104, 111, 108, 100]) = decide (bl k = wHold) := by rw [toList_bl, Bool.eq_iff_iff, beq_iff_eq, decide_eq_true_iff]; rfl
theorem word_eqb5 (k : ByteArray) : (k.toList == [100, 114, 111, 112]) = decide (bl k = wDrop) := by rw [toList_bl, Bool.eq_iff_iff, beq_iff_eq, decide_eq_true_iff]; rfl
theorem readW_right {s : List UInt8} (h : (readW s).1 = 0) : wantE (readW s).2 = 0 := by
  unfold readW at h ⊢
  cases hf : fiveW (cutL 32 s) with
  | none => rw [hf] at h; cases h
  | some x =>
    rw [hf] at h
    have h0 : wantE x = 0 := by
      by_cases h1 : wantE x ≠ 0
      · have h2 : (if wantE x ≠ 0 then (wantE x, zeroW) else (0, x)).1 = 0 := h
        rw [if_pos h1] at h2
        exact absurd h2 h1
      · simpa using h1
    show wantE (if wantE x ≠ 0 then (wantE x, zeroW) else (0, x)).2 = 0
    rw [if_neg (by omega)]
    exact h0
theorem bytes_bl (b : ByteArray) : (⟨(bl b).toArray⟩ : ByteArray) = b := by cases b; rfl

set_option maxHeartbeats 4000000 in
set_option maxRecDepth 100000 in
theorem shopAgain_any {E : Nat → Addr} (B hb sb : Nat) (p q : Option Addr) (S : ShopS) (s : ByteArray) (w : World) (h : AgIs w B hb sb (.pointer p) (.pointer q) S) (hok : OpOk S) (hs : s.size ≤ 20000) (hBw : B ≤ w.heap.size) (hE : ∀ W, Below B w W → FtEnv E W) :
    Calls Tryz.prog 34 #[.pointer (some ⟨sb, 0, none⟩), .string s] w (AgPost E B hb sb (.pointer p) (.pointer q) (againS S (bl s)) w) := by
  have HA0 := Lib.hid h
  have HE := Lib.hid hE
  have HOK := Lib.hid hok
  have C := Lib.hid (strCut_any s ⟨#[32]⟩ w (by omega) (hE w (Below.refl _ _)).1.1.1.2.max)
  clear h hE hok
  go_enter Tryz.func34, Tryz.ntmps34
  go_wp2_with fail
  refine C.out.mono ?_
  clear C
  rintro e w1 ⟨⟨a, b, is, rfl, HC, ha, hbs⟩, hb1⟩
  have hbB := hb1.mono hBw
  have hB1 : B ≤ w1.heap.size := Nat.le_trans hBw hb1.size
  have HE1 := Lib.hid (HE.out w1 hbB)
  have HC2 : Hid (Lib.cut (bl s) [32] = (bl a, bl b, is)) := HC
  have e1 : w1.cell? ⟨6, 0, none⟩ = some (sentV E 0) := HE1.out.env.err 0 (by decide)
  have HEB : Hid (∀ W, Below B w1 W → FtEnv E W) := fun W hW => HE.out W (hbB.trans hW)
  cases is with
  | false =>
    have HY : Hid (againS S (bl s) = (1, S)) := againS_no (by rw [HC2.out])
    clear HC HC2
    go_wp2_with fail
    go_ret
    rw [HY.out]
    exact ⟨⟨_, ⟨1, none⟩, rfl, IsErr.sentW (by decide), rfl⟩, fun h => absurd (show (1 : Nat) = 0 from h) (by decide), hbB⟩
  | true =>
    have HY0 : Hid (againS S (bl s) = agW S (bl a) (bl b)) := againS_is HC2.out
    obtain ⟨rv, lv, rl, hA⟩ := HA0.out
    have HA1 := Lib.hid (hA.below hb1)
    clear hA HC HC2 HA0 hb1
    obtain ⟨c0, c1, c2, c3, c4⟩ := HA1.out.cells
    have HWA := Lib.hid HA1.out.lock.arg
    have q1 := word_eqb1 a
    have q2 := word_eqb2 a
    have q3 := word_eqb3 a
    have q4 := word_eqb4 a
    have q5 := word_eqb5 a
    by_cases h1 : bl a = wRule
    · rw [decide_eq_true h1] at q1
      have HY : Hid (againS S (bl s) = ruledS S (cutL 32 (bl b))) := by show _ = _; rw [HY0.out, h1]; exact agW_rule S (bl b)
      have C := Lib.hid (split_any b 32 w1 (by omega) HE1.out.1.1.1.2.max)
      clear q2 q3 q4 q5 h1 HY0
      go_wp2_with fail
      refine C.out.mono ?_
      clear C
      rintro e w2 ⟨⟨zs, n, rfl, HZ, rfl, hns, HZs, HS⟩, hb2⟩
      have hB2 := hb2.mono hB1
      have hz0 : 0 < zs.length := by
        have h := congrArg List.length HZ.out
        rw [List.length_map] at h
        have := cutL_pos 32 (bl b)
        omega
      have hne : rv.ownBlock ≠ some w1.heap.size := fun e => by
        obtain ⟨_, _, ho, _⟩ := HA1.out.rules
        have := (ho.lt _ e).2
        omega
      have C := Lib.hid (shopRuled_any B hb sb p q S rv lv rl w1.heap.size zs w2 (HA1.out.below hb2) HOK.out hz0 (fun z hz => by have := HZs.out z hz; omega) (by omega) HS.out hne (Nat.le_trans hB1 hb2.size) (fun W hW => HEB.out W (hB2.trans hW)))
      clear c0 c1 c2 c3 c4 e1
      go_wp2_with fail
      refine C.out.mono ?_
      clear C
      rintro e w3 ⟨⟨ev, er, rfl, HI, hc⟩, HP, hb3⟩
      have hbz := (hbB.trans hB2).trans hb3
      clear hb3
      go_wp2_with fail
      go_ret
      rw [HY.out, ← HZ.out]
      exact ⟨⟨_, er, rfl, HI, hc⟩, HP, hbz⟩
    rw [decide_eq_false h1] at q1
    by_cases h2 : bl a = wWant
    · rw [decide_eq_true h2] at q2
      have HY := Lib.hid (HY0.out.trans ((congrArg (fun k => agW S k (bl b)) h2).trans (agW_want S (bl b))))
      have C := wantRead_any b w1 (by omega) HE1.out.1
      have hr := @readW_right (bl b)
      have hle := readW_le (bl b)
      obtain ⟨r, hrr⟩ : ∃ r, readW (bl b) = r := ⟨_, rfl⟩
      unfold WReadPost at C
      rw [hrr] at C hr hle HY
      obtain ⟨c, y⟩ := r
      dsimp only at C hr hle HY
      have HC := Lib.hid C
      have HR := Lib.hid hr
      clear C hr hrr q3 q4 q5 h1 h2 HY0
      go_wp2_with fail
      refine HC.out.mono ?_
      clear HC
      rintro e w2 ⟨rfl, hb2⟩
      rw [show wV y = .agg #[.string y.name, .string y.url, .string y.kind, .int .i64 y.strip, .int .i64 y.sum] from rfl]
      obtain ⟨pf, hpf⟩ : ∃ pf, w2.heap.size = pf := ⟨_, rfl⟩
      obtain ⟨wa, hwa⟩ : ∃ wa, w2.alloc (.cells #[.string y.name, .string y.url, .string y.kind, .int .i64 y.strip, .int .i64 y.sum] 60) = wa := ⟨_, rfl⟩
      have hal : Below w2.heap.size w2 wa := by rw [← hwa]; exact (Below.refl _ _).alloc (Nat.le_refl _) _
      have BX := Lib.hid (show WBox wa pf y by rw [← hwa, ← hpf]; exact WBox.new w2 y)
      have HPF := Lib.hid hpf
      have HWA2 := Lib.hid hwa
      have hba := hb2.trans (hal.mono hb2.size)
      have hBa := hba.mono hB1
      have HAa := Lib.hid (HA1.out.below hba)
      have e2 : wa.cell? ⟨6, 0, none⟩ = some (sentV E 0) := (HEB.out wa hBa).env.err 0 (by decide)
      have hBwa : B ≤ wa.heap.size := Nat.le_trans hB1 hba.size
      clear c0 c1 c2 c3 c4 e1 hal hpf hwa hb2
      obtain ⟨c0, c1, c2, c3, c4⟩ := HAa.out.cells
      go_upto_region 9 with fail
      rw [HWA2.out, HPF.out]
      cases c with
      | succ c =>
        rw [show errV E (c + 1) = sentV E c from rfl]
        have HY2 : Hid (againS S (bl s) = (1, S)) := by show _ = _; rw [HY.out, if_pos (Nat.succ_ne_zero _)]
        have hbz := hbB.trans hBa
        go_wp2_with fail
        go_ret
        rw [HY2.out]
        exact ⟨⟨_, ⟨1, none⟩, rfl, IsErr.sentW (by decide), rfl⟩, fun h => absurd (show (1 : Nat) = 0 from h) (by decide), hbz⟩
      | zero =>
        rw [show errV E 0 = .nilIface from rfl]
        have HY2 : Hid (againS S (bl s) = ((setLk S.lock y).1.code, { S with lock := (setLk S.lock y).2 })) := by show _ = _; rw [HY.out, if_neg (by simp)]
        have hdr : Below wa.heap.size wa wa.drew := below_drewN _ _ 1
        have HAd := Lib.hid (HAa.out.below hdr)
        have C := lockSet_any lv S.lock y wa.drew HAd.out.lock.arg (by have := HOK.out.lock.few; omega) HOK.out.lock.small (small_want (HR.out rfl)) (HEB.out wa.drew (hBa.trans (hdr.mono hBwa))).1.1.1
        obtain ⟨r, hr⟩ : ∃ r, setLk S.lock y = r := ⟨_, rfl⟩
        rw [hr] at C HY2
        obtain ⟨er, l2⟩ := r
        unfold LSetPost at C
        dsimp only at C HY2
        have HC := Lib.hid C
        obtain ⟨b0, b1, b2, b3, b4⟩ := BX.out.cells
        have K0 : Hid (∀ W, Below wa.heap.size wa W → (W.cell? ⟨sb, 2, none⟩ = some lv ∧ W.frozen? ⟨sb, 2, none⟩ = false)) := fun W hW => ⟨(HAa.out.below hW).cells.2.2.1, (HAa.out.below hW).froz 2⟩
        clear C hr HY HR
        go_wp2_with fail
        obtain ⟨cd, _⟩ := K0.out wa.drew hdr
        obtain ⟨e0, e1, e2', e3, e4⟩ := (BX.out.ext hdr).cells
        go_region_with (first
          | (go_at_call 80; refine HC.out.mono ?_; rintro e w3 ⟨⟨v1, ev, rfl, HI, HO⟩, hb3⟩; obtain ⟨oa, oc, rfl⟩ := WOwn.shape HO.out; have hb3a := hdr.trans (hb3.mono hdr.size); have f2 := (K0.out w3 hb3a).2; have k2 := (K0.out w3 hb3a).1))
        all_goals
          have hB3 := hb3a.mono hBwa
          have HA3 := Lib.hid (HAa.out.below hb3a)
          have hBw3 : B ≤ w3.heap.size := Nat.le_trans hBwa hb3a.size
          have HA4 := Lib.hid (HA3.out.setLock (WOwn.low HO.out hBwa) hBw3)
          obtain ⟨c0, c1, c2, c3, c4⟩ := HA3.out.cells
          have HI4 := Lib.hid (HI.out.shopCell c0 2 (.slice oa l2.length oc))
          have hbz : Below B w (w3.setCell ⟨sb, 2, none⟩ (.slice oa l2.length oc)) := ((hbB.trans hBa).trans hB3).setCell (p := ⟨sb, 2, none⟩) HA3.out.hsb _
          clear HI HO hb3 hB3
          go_wp2_with fail
          go_ret
          rw [HY2.out]
          exact ⟨⟨_, er, rfl, HI4, rfl⟩, fun _ => ⟨_, _, _, HA4.out⟩, hbz⟩
    rw [decide_eq_false h2] at q2
    by_cases h3 : bl a = wUnwant
    · rw [decide_eq_true h3] at q3
      have HY : Hid (againS S (bl s) = ((dropLk S.lock b).1.code, { S with lock := (dropLk S.lock b).2 })) := by show _ = _; rw [HY0.out, h3, agW_unwant, bytes_bl]
      have C := lockDrop_any lv S.lock b w1 HA1.out.lock.arg (by have := HOK.out.lock.few; omega) HOK.out.lock.small HE1.out.1.1.1
      obtain ⟨r, hr⟩ : ∃ r, dropLk S.lock b = r := ⟨_, rfl⟩
      rw [hr] at C HY
      obtain ⟨er, l2⟩ := r
      unfold LSetPost at C
      dsimp only at C HY
      have HC := Lib.hid C
      clear C hr q4 q5 h1 h2 h3 HY0
      go_wp2_with fail
      refine HC.out.mono ?_
      clear HC c0 c1 c2 c3 c4 e1
      rintro e w3 ⟨⟨v1, ev, rfl, HI, HO⟩, hb3⟩
      obtain ⟨oa, oc, rfl⟩ := WOwn.shape HO.out
      have hB3 := hb3.mono hB1
      have HA3 := Lib.hid (HA1.out.below hb3)
      have hBw3 : B ≤ w3.heap.size := Nat.le_trans hB1 hb3.size
      have HA4 := Lib.hid (HA3.out.setLock (WOwn.low HO.out hB1) hBw3)
      obtain ⟨c0, c1, c2, c3, c4⟩ := HA3.out.cells
      have f2 := HA3.out.froz 2
      have HI4 := Lib.hid (HI.out.shopCell c0 2 (.slice oa l2.length oc))
      have hbz : Below B w (w3.setCell ⟨sb, 2, none⟩ (.slice oa l2.length oc)) := (hbB.trans hB3).setCell (p := ⟨sb, 2, none⟩) HA3.out.hsb _
      clear HI HO hb3 hB3
      go_wp2_with fail
      go_ret
      rw [HY.out]
      exact ⟨⟨_, er, rfl, HI4, rfl⟩, fun _ => ⟨_, _, _, HA4.out⟩, hbz⟩
    rw [decide_eq_false h3] at q3
    by_cases h4 : bl a = wHold
    · rw [decide_eq_true h4] at q4
      have HY := Lib.hid (HY0.out.trans ((congrArg (fun k => agW S k (bl b)) h4).trans (agW_hold S (bl b))))
      have C := packRead_own (E := E) b w1 (by omega) HE1.out.1
      unfold PReadOwn at C
      have hzz := @read_right (bl b)
      obtain ⟨er, her⟩ : ∃ er, readEr (bl b) = er := ⟨_, rfl⟩
      obtain ⟨tr, htr⟩ : ∃ tr, readT (bl b) = tr := ⟨_, rfl⟩
      rw [her, htr] at C HY
      rw [her, htr] at hzz
      have HC := Lib.hid C
      have HZZ := Lib.hid hzz
      clear C her htr hzz q5 h1 h2 h3 h4 HY0
      go_wp2_with fail
      refine HC.out.mono ?_
      clear HC
      rintro e w2 ⟨⟨fv, ev, rfl, HF, HI⟩, hb2⟩
      have hB2 := hb2.mono hB1
      have HA2 := Lib.hid (HA1.out.below hb2)
      have e2 : w2.cell? ⟨6, 0, none⟩ = some (sentV E 0) := (HEB.out w2 hB2).env.err 0 (by decide)
      clear c0 c1 c2 c3 c4 e1
      obtain ⟨c0, c1, c2, c3, c4⟩ := HA2.out.cells
      by_cases hz : er.code = 0
      · obtain rfl : ev = .nilIface := HI.out.zero hz
        have hrl := right_len (HZZ.out hz)
        have HY2 : Hid (againS S (bl s) = ((putH S.held tr).1.code, { S with held := (putH S.held tr).2.2 })) := by show _ = _; rw [HY.out, if_neg (by rw [hz]; simp)]
        have hBw2 : B ≤ w2.heap.size := Nat.le_trans hB1 hb2.size
        have C := heldPut_any B hb S.held fv tr w2 (fun w' hk => FOwn.arg (base := w1.heap.size) (hk.owns HF.out heldRow_files)) hrl.1 hrl.2 HA2.out.held hBw2 (HEB.out w2 hB2).1.1
        obtain ⟨r, hr⟩ : ∃ r, putH S.held tr = r := ⟨_, rfl⟩
        rw [hr] at C HY2
        obtain ⟨er2, nn, hh2⟩ := r
        unfold HPutPost at C
        dsimp only at C HY2
        have HC := Lib.hid C
        clear C hr hz HI HY hrl HZZ
        go_wp2_with fail
        refine HC.out.mono ?_
        clear HC c0 c1 c2 c3 c4 e2
        rintro e w3 ⟨⟨ev2, rfl, hI⟩, hh3, hk3, _⟩
        have HI := Lib.hid hI
        have HA3 := Lib.hid (HA2.out.turnHeld hk3 hh3)
        have hbz := (hbB.trans hB2).trans hk3.below
        clear hI hh3 hk3
        go_wp2_with fail
        go_ret
        rw [HY2.out]
        exact ⟨⟨_, er2, rfl, HI, rfl⟩, fun _ => ⟨_, _, _, HA3.out⟩, hbz⟩
      · obtain ⟨ty, x, rfl⟩ := HI.out.some_inv hz
        have HY2 : Hid (againS S (bl s) = (1, S)) := by show _ = _; rw [HY.out, if_pos hz]
        have hbz := hbB.trans hB2
        clear hz HI HF
        go_wp2_with fail
        go_ret
        rw [HY2.out]
        exact ⟨⟨_, ⟨1, none⟩, rfl, IsErr.sentW (by decide), rfl⟩, fun h => absurd (show (1 : Nat) = 0 from h) (by decide), hbz⟩
    rw [decide_eq_false h4] at q4
    by_cases h5 : bl a = wDrop
    · rw [decide_eq_true h5] at q5
      have HY := Lib.hid (HY0.out.trans ((congrArg (fun k => agW S k (bl b)) h5).trans (agW_drop S (bl b))))
      have C := Lib.hid (sumNumber_any b 10 (by decide) w1 (by omega) HE1.out.1.2 HE1.out.1.1.2)
      clear h1 h2 h3 h4 h5 HY0
      go_wp2_with fail
      refine C.out.mono ?_
      clear C
      rintro e w2 ⟨n, ok, rfl, HN, hb2⟩
      have hB2 := hb2.mono hB1
      have HA2 := Lib.hid (HA1.out.below hb2)
      have e2 : w2.cell? ⟨6, 0, none⟩ = some (sentV E 0) := (HEB.out w2 hB2).env.err 0 (by decide)
      clear c0 c1 c2 c3 c4 e1
      obtain ⟨c0, c1, c2, c3, c4⟩ := HA2.out.cells
      rcases HN.out with ⟨m, hm, rfl, rfl⟩ | ⟨hm, rfl⟩
      · have HY2 : Hid (againS S (bl s) = ((dropH S.held m).1, { S with held := (dropH S.held m).2 })) := by show _ = _; rw [HY.out, hm]
        have hBw2 : B ≤ w2.heap.size := Nat.le_trans hB1 hb2.size
        have hm10 := num_ten hm
        have C := heldDrop_any B hb S.held (m : Int) (by unfold I64; omega) w2 HA2.out.held hBw2 (HEB.out w2 hB2).env
        have hle := dropHd_le S.held (m : Int)
        obtain ⟨r, hr⟩ : ∃ r, dropH S.held (m : Int) = r := ⟨_, rfl⟩
        rw [hr] at C HY2 hle
        obtain ⟨c, hh2⟩ := r
        unfold HDropPost at C
        dsimp only at C HY2 hle
        have HC := Lib.hid C
        clear C hr HN HY hm
        go_wp2_with fail
        refine HC.out.mono ?_
        clear HC c0 c1 c2 c3 c4 e2
        rintro e w3 ⟨rfl, hh3, hk3⟩
        have HA3 := Lib.hid (HA2.out.turnHeld hk3 hh3)
        have hbz := (hbB.trans hB2).trans hk3.below
        clear hh3 hk3
        go_wp2_with fail
        go_ret
        rw [HY2.out]
        exact ⟨⟨_, ⟨c, none⟩, rfl, errV_is hle, rfl⟩, fun _ => ⟨_, _, _, HA3.out⟩, hbz⟩
      · have HY2 : Hid (againS S (bl s) = (1, S)) := by show _ = _; rw [HY.out, hm]
        have hbz := hbB.trans hB2
        clear HN HY hm
        go_wp2_with fail
        go_ret
        rw [HY2.out]
        exact ⟨⟨_, ⟨1, none⟩, rfl, IsErr.sentW (by decide), rfl⟩, fun h => absurd (show (1 : Nat) = 0 from h) (by decide), hbz⟩
    rw [decide_eq_false h5] at q5
    have HY : Hid (againS S (bl s) = (1, S)) := by show _ = _; rw [HY0.out]; exact agW_other S (bl b) h1 h2 h3 h4 h5
    clear h1 h2 h3 h4 h5 HY0
    go_wp2_with fail
    go_ret
    rw [HY.out]
    exact ⟨⟨_, ⟨1, none⟩, rfl, IsErr.sentW (by decide), rfl⟩, fun h => absurd (show (1 : Nat) = 0 from h) (by decide), hbB⟩
end Go.Proofs.YtcjjbpoaojjojaaGreatDoor
