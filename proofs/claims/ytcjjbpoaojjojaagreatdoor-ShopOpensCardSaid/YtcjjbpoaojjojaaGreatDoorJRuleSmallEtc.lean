/- held: Copy, Same: contracts. Rules that are right are short. A shop in memory: its net, rules, lock, held, tape; the reference's; frames by kind. -/
import Derived.Test.YtcjjbpoaojjojaaGreatDoorJHeldEnds
import Derived.Shelf.SlMaps.Clone
import Derived.Test.YtcjjbpoaojjojaaGreatDoorJFetchPlains
import Derived.Test.YtcjjbpoaojjojaaGreatDoorJMirrorUp
import Derived.Test.YtcjjbpoaojjojaaGreatDoorJNetEnds
import Derived.Test.YtcjjbpoaojjojaaGreatDoorJTapeOpsEtc
import Derived.Test.YtcjjbpoaojjojaaGreatDoorJLockUpEtc
import Derived.Test.YtcjjbpoaojjojaaGreatDoorJFetches
namespace Go.Proofs.YtcjjbpoaojjojaaGreatDoor
open Go Go.RowKit Go.Maps

set_option maxRecDepth 100000 in
theorem mapsClone_any (b : Nat) (es : Array MapEntry) (clock : Nat) (w : World) (hb : w.heap[b]? = some (.map es clock)) :
    Calls Tryz.prog 144 #[.map (some b)] w fun e w' => e = .returned (.map (some w.heap.size)) ∧ w' = w.alloc (.map es clock) := by
  have hq := fun w => run_eql_map_nil_sl (P := Tryz.prog) w 143 _ _ (some b) Tryz.underlying143
  go_enter Tryz.func144, Tryz.ntmps144
  go_wp2
  rw [run_callFunc_extern Tryz.func204 (by kernel_rfl) (by kernel_rfl) (by kernel_rfl) (e := Extern.MapsClone.clone) (by kernel_rfl), run_maps_clone_sl w 143 hb]
  simp only [Result.andThen]
  rw [Oper.upon_value]
  go_wp2
  rw [run_typeAssert_map_sl _ 143 _ _ _ _ Tryz.underlying143]
  simp only [Result.andThen]
  rw [Oper.upon_value]
  go_wp2
  go_ret
  exact ⟨rfl, rfl⟩
theorem MapI.copy {w w' : World} {b b' m : Nat} {f : Int → Option Value} {es : Array MapEntry} {c : Nat} (h : MapI w b m f) (he : w.heap[b]? = some (.map es c)) (hb : w'.heap[b']? = some (.map es c)) : MapI w' b' m f := by
  obtain ⟨D, ⟨es', clock, h1, F, hs, hD⟩, h2⟩ := h
  rw [he] at h1
  simp only [Option.some.injEq, Obj.map.injEq] at h1
  obtain ⟨rfl, rfl⟩ := h1
  exact ⟨D, ⟨es, c, hb, F, hs, hD⟩, h2⟩
def HCopyPost (B : Nat) (h : HeldB) (w : World) (e : Ending) (w' : World) : Prop := (∃ b, e = .returned (.pointer (some ⟨b, 0, none⟩)) ∧ Hid (HeldIs w' B b h) ∧ w.heap.size + 1 ≤ b) ∧ Below w.heap.size w w'

set_option maxHeartbeats 1000000 in
set_option maxRecDepth 100000 in
theorem heldCopy_any (B b : Nat) (h : HeldB) (w : World) (hi : HeldIs w B b h) (hB : B ≤ w.heap.size) :
    Calls Tryz.prog 70 #[.pointer (some ⟨b, 0, none⟩)] w (HCopyPost B h w) := by
  obtain ⟨h0, ov, mb, f, hA⟩ := hi
  obtain ⟨es, c, he⟩ := hA.map.isMap
  obtain ⟨c0, c1, c2, _⟩ := held_ready hA.blk
  obtain ⟨ao, cap, rfl⟩ := IOwn.shape hA.order
  have a0 : w.drew.cell? ⟨b, 0, none⟩ = some (.int .i64 h.most) := c0
  have a1 : w.drew.cell? ⟨b, 1, none⟩ = some (.slice ao h.sums.length cap) := c1
  have a2 : w.drew.cell? ⟨b, 2, none⟩ = some (.map (some mb)) := c2
  have hl : h.sums.length ≤ 100000 := by have := h0.len; have := h0.few; rw [sums_len]; omega
  have HC1 := Lib.hid (cloneInts_any (.slice ao h.sums.length cap) h.sums w.drew hl (hA.order.ext (below_drewN _ _ 1)).row)
  have HA := Lib.hid hA
  have H0 := Lib.hid h0
  have HE := Lib.hid he
  have hbl : b < w.heap.size := (Array.getElem?_eq_some_iff.1 hA.blk).1
  have hml : mb < w.heap.size := hA.map.lt
  clear hA hl h0 he c0 c1 c2
  go_enter Tryz.func70, Tryz.ntmps70
  go_wp2_with fail
  go_region_held3 (fun W : World => W.cell? ⟨b, 0, none⟩ = some (.int .i64 h.most) ∧ W.cell? ⟨b, 1, none⟩ = some (.slice ao h.sums.length cap) ∧ W.cell? ⟨b, 2, none⟩ = some (.map (some mb))) (first | exact ⟨Lib.cell?_alloc_some _ e0, Lib.cell?_alloc_some _ e1, Lib.cell?_alloc_some _ e2⟩ | exact ⟨e0, e1, e2⟩ | exact ⟨d0, d1, d2⟩ | exact ⟨a0, a1, a2⟩)
    (first
      | (go_at_call 71; refine HC1.out.mono ?_; rintro e w1 ⟨⟨ov, rfl, HO⟩, hb1⟩; obtain ⟨oo, oc, rfl⟩ := IOwn.shape HO.out; have d0 := (hb1.cell (p := ⟨b, 0, none⟩) hbl).trans a0; have d1 := (hb1.cell (p := ⟨b, 1, none⟩) hbl).trans a1; have d2 := (hb1.cell (p := ⟨b, 2, none⟩) hbl).trans a2; have hm1 : w1.heap[mb]? = some (.map es c) := (hb1.block mb hml).trans HE.out)
      | (go_at_call 144; refine (mapsClone_any mb es c w1 hm1).mono ?_; rintro e w2 ⟨rfl, hw2⟩; have hb2 : Below w1.heap.size w1 w2 := (by rw [hw2]; exact (Below.refl _ _).alloc (Nat.le_refl _) _); have hn2 : w2.heap[w1.heap.size]? = some (.map es c) := (by rw [hw2]; exact heap_alloc_new _ _); have hz2 : w1.heap.size + 1 = w2.heap.size := (by rw [hw2]; simp); have e0 := (hb2.cell (p := ⟨b, 0, none⟩) (Nat.lt_of_lt_of_le hbl hb1.size)).trans d0; have e1 := (hb2.cell (p := ⟨b, 1, none⟩) (Nat.lt_of_lt_of_le hbl hb1.size)).trans d1; have e2 := (hb2.cell (p := ⟨b, 2, none⟩) (Nat.lt_of_lt_of_le hbl hb1.size)).trans d2; clear hw2))
  have hbw1 : Below w.heap.size w w1 := (below_drewN _ _ 1).trans hb1
  have hbw2 : Below w.heap.size w w2 := hbw1.trans (hb2.mono hbw1.size)
  have hal : Below w2.heap.size w2 (w2.alloc (.cells #[.int .i64 h.most, .slice oo h.sums.length oc, .map (some w1.heap.size)] 145)) := (Below.refl _ _).alloc (Nat.le_refl _) _
  have hbw3 := hbw2.trans (hal.mono hbw2.size)
  have HF : Hid (HeldIs (w2.alloc (.cells #[.int .i64 h.most, .slice oo h.sums.length oc, .map (some w1.heap.size)] 145)) B w2.heap.size h) := by
    refine ⟨H0.out, .slice oo h.sums.length oc, w1.heap.size, f, ?_⟩
    refine { hb := Nat.le_trans hB hbw2.size, hm := Nat.le_trans hB hbw1.size, hlt := hz2, blk := heap_alloc_new _ _, order := ?_, map := ?_, vals := fun n => (HA.out.vals n).keeps (K := fun _ => False) (Keeps.of hbw3 (Nat.le_refl _)) (fun _ h => h) }
    · exact IOwn.low (IOwn.ext (IOwn.ext HO.out hb2) hal) hB
    · exact HA.out.map.copy HE.out ((hal.block _ (by have := (Array.getElem?_eq_some_iff.1 hn2).1; exact this)).trans hn2)
  have hle : w.heap.size + 1 ≤ w2.heap.size := by have := hbw1.size; omega
  clear HO hb1 hb2 hn2 hm1 d0 d1 d2 e0 e1 e2 HC1 a0 a1 a2
  go_wp2_with fail
  go_ret
  exact ⟨⟨_, rfl, HF, hle⟩, hbw3⟩
end Go.Proofs.YtcjjbpoaojjojaaGreatDoor

namespace Go.Proofs.YtcjjbpoaojjojaaGreatDoor
open Go

theorem trimSuffix_len (s : List UInt8) : s.length ≤ (Lib.trimSuffix s [47]).length + 1 := by
  unfold Lib.trimSuffix
  split
  · rw [List.length_take, show ([47] : List UInt8).length = 1 from rfl]
    omega
  · exact Nat.le_succ _
/-- The beginning of a link is short. -/
theorem begin_short {l : List UInt8} (h : beginE l = 0) : l.length ≤ 120 := by
  unfold beginE at h
  by_cases h0 : lkE l = 0
  · rw [if_pos h0] at h
    have lp : (lkP l).length ≤ 79 := by
      have ht := trimSuffix_len (lkP l)
      split at h
      · rename_i h1
        rw [h1] at ht
        simp at ht
        omega
      · obtain ⟨p1, p2⟩ := partsE_ok h
        have := lpartsLen _ p1
        rw [cutL_join] at this
        omega
    unfold lkE at h0
    split at h0
    · cases h0
    · rename_i c1
      split at h0
      · cases h0
      · rename_i c2
        split at h0
        · cases h0
        · rename_i c3
          have e1 : lkIs l = true := by cases hq : lkIs l; simp [hq] at c1; rfl
          have e2 : lkAlso l = true := by cases hq : lkAlso l; simp [hq] at c1; rfl
          have e3 : kinds.contains (lkK l) = true := by simpa using c2
          have e4 : partB (lkH l) = true := by simpa using c3
          have l1 := congrArg List.length (lcutEq e1)
          have l2 := congrArg List.length (lcutEq e2)
          rw [List.length_append, List.length_append] at l1 l2
          have k4 : (lkK l).length ≤ 4 := by
            have := List.contains_iff_mem.1 e3
            unfold kinds at this
            simp only [List.mem_cons, List.not_mem_nil, or_false] at this
            rcases this with h | h | h <;> rw [h] <;> decide
          have k5 := lpartLen e4
          have k6 : sepL.length = 3 := rfl
          have k7 : ([47] : List UInt8).length = 1 := rfl
          unfold lkK at k4
          unfold lkP at lp
          unfold lkH at k5
          unfold lkR at *
          omega
  · rw [if_neg h0] at h; exact absurd h h0
theorem firstE_each : ∀ {l : List (List UInt8)}, firstE l = 0 → ∀ t ∈ l, beginE t = 0
  | [], _, t, ht => by cases ht
  | x :: r, h, t, ht => by
    unfold firstE at h
    by_cases h0 : beginE x = 0
    · rw [if_pos h0] at h
      rcases List.mem_cons.1 ht with rfl | ht
      · exact h0
      · exact firstE_each h t ht
    · rw [if_neg h0] at h; exact absurd h h0
theorem one_small {r : RuleB} (h : oneE (ruleOf r) = 0) : Small r := by
  obtain ⟨f, ts⟩ := r
  unfold oneE ruleOf at h
  dsimp only at h
  by_cases h0 : beginE (bl f) = 0
  · rw [if_pos h0] at h
    by_cases h8 : 8 < (ts.map bl).length
    · rw [if_pos h8] at h; cases h
    · rw [if_neg h8] at h
      rw [List.length_map] at h8
      refine ⟨?_, by show ts.length ≤ 10; omega, fun t ht => ?_⟩
      · show f.size ≤ 120
        rw [← bl_length]
        exact begin_short h0
      · rw [← bl_length]
        exact begin_short (firstE_each h _ (List.mem_map.2 ⟨t, ht, rfl⟩))
  · rw [if_neg h0] at h; exact absurd h h0
theorem rules_small {l : List RuleB} (h : (rulesEr (l.map ruleOf)).code = 0) : l.length ≤ 10 ∧ ∀ r ∈ l, Small r := by
  obtain ⟨_, h1, h2⟩ := rulesEr_zero h
  rw [List.length_map] at h1
  exact ⟨h1, fun r hr => one_small (h2 _ (List.mem_map.2 ⟨r, hr, rfl⟩))⟩
end Go.Proofs.YtcjjbpoaojjojaaGreatDoor

namespace Go.Proofs.YtcjjbpoaojjojaaGreatDoor
open Go Go.RowKit

def ShopRow (o : Obj) : Prop := ∃ cs fz, o = .cells cs 138 fz
def RShopRow (o : Obj) : Prop := ∃ cs fz, o = .cells cs 108 fz
/-- What the program's deeds turn; what the reference's turn. -/
def PRow (o : Obj) : Prop := NetRow o ∨ HeldRow o ∨ TapeRow o ∨ ShopRow o
/-- Kinds that are none of the program's. -/
structure ProgFree (K : Obj → Prop) : Prop where
  map : ∀ es c, ¬ K (.map es c)
  net : ∀ cs fz, ¬ K (.cells cs 90 fz)
  held : ∀ cs fz, ¬ K (.cells cs 145 fz)
  disk : ∀ cs fz, ¬ K (.cells cs 85 fz)
  byte : ∀ cs fz, ¬ K (.cells cs 5 fz)
  shop : ∀ cs fz, ¬ K (.cells cs 138 fz)
  rule : ∀ cs fz, ¬ K (.cells cs 58 fz)
  want : ∀ cs fz, ¬ K (.cells cs 60 fz)
  file : ∀ cs fz, ¬ K (.cells cs 149 fz)
  str : ∀ cs fz, ¬ K (.cells cs 9 fz)
  int : ∀ cs fz, ¬ K (.cells cs 3 fz)
def progTypes : List TypeId := [90, 145, 85, 5, 138, 58, 60, 149, 9, 3]
theorem ProgFree.of_type (T : TypeId) (hT : ∀ x ∈ progTypes, x ≠ T) : ProgFree (fun o => ∃ cs fz, o = .cells cs T fz) where
  map := fun _ _ ⟨_, _, h⟩ => by cases h
  net := fun _ _ ⟨_, _, h⟩ => by injection h with _ h _; exact hT _ (by simp [progTypes]) h
  held := fun _ _ ⟨_, _, h⟩ => by injection h with _ h _; exact hT _ (by simp [progTypes]) h
  disk := fun _ _ ⟨_, _, h⟩ => by injection h with _ h _; exact hT _ (by simp [progTypes]) h
  byte := fun _ _ ⟨_, _, h⟩ => by injection h with _ h _; exact hT _ (by simp [progTypes]) h
  shop := fun _ _ ⟨_, _, h⟩ => by injection h with _ h _; exact hT _ (by simp [progTypes]) h
  rule := fun _ _ ⟨_, _, h⟩ => by injection h with _ h _; exact hT _ (by simp [progTypes]) h
  want := fun _ _ ⟨_, _, h⟩ => by injection h with _ h _; exact hT _ (by simp [progTypes]) h
  file := fun _ _ ⟨_, _, h⟩ => by injection h with _ h _; exact hT _ (by simp [progTypes]) h
  str := fun _ _ ⟨_, _, h⟩ => by injection h with _ h _; exact hT _ (by simp [progTypes]) h
  int := fun _ _ ⟨_, _, h⟩ => by injection h with _ h _; exact hT _ (by simp [progTypes]) h
theorem ProgFree.or {K L : Obj → Prop} (h : ProgFree K) (k : ProgFree L) : ProgFree (fun o => K o ∨ L o) where
  map := fun a b h1 => h1.elim (h.map a b) (k.map a b)
  net := fun a b h1 => h1.elim (h.net a b) (k.net a b)
  held := fun a b h1 => h1.elim (h.held a b) (k.held a b)
  disk := fun a b h1 => h1.elim (h.disk a b) (k.disk a b)
  byte := fun a b h1 => h1.elim (h.byte a b) (k.byte a b)
  shop := fun a b h1 => h1.elim (h.shop a b) (k.shop a b)
  rule := fun a b h1 => h1.elim (h.rule a b) (k.rule a b)
  want := fun a b h1 => h1.elim (h.want a b) (k.want a b)
  file := fun a b h1 => h1.elim (h.file a b) (k.file a b)
  str := fun a b h1 => h1.elim (h.str a b) (k.str a b)
  int := fun a b h1 => h1.elim (h.int a b) (k.int a b)
theorem free_rtape : ProgFree RTapeRow := ProgFree.of_type 47 (by decide)
theorem Buf.keeps {K : Obj → Prop} {w w' : World} {B B2 : Nat} {v : Value} {bs : List Value} (h : Buf w B v bs) (hk : Keeps K B2 w w') (h1 : ∀ cs fz, ¬ K (.cells cs 5 fz)) : Buf w' B v bs := by
  rcases h with h | ⟨g, cap, cur, lo, hi, e, q1, q2, q3⟩
  · exact .inl h
  · exact .inr ⟨g, cap, cur, lo, hi, e, q1, hk.keep g _ q2 (h1 _ _), q3⟩
theorem TapeIs.keeps {K : Obj → Prop} {w w' : World} {B B2 b : Nat} {t : TapeS} (h : TapeIs w B b t) (hk : Keeps K B2 w w') (h1 : ∀ cs fz, ¬ K (.cells cs 85 fz)) (h2 : ∀ cs fz, ¬ K (.cells cs 5 fz)) : TapeIs w' B b t := by
  obtain ⟨⟨q1, v, q2, q3⟩, q4⟩ := h
  exact ⟨⟨q1, v, hk.keep b _ q2 (h1 _ _), q3.keeps hk h2⟩, q4⟩
theorem RulesOwn.keeps {K : Obj → Prop} {w w' : World} {B B2 : Nat} {v : Value} {l : List RuleB} (h : RulesOwn w B v l) (hk : Keeps K B2 w w') (h1 : ∀ cs fz, ¬ K (.cells cs 58 fz)) (h2 : ∀ cs fz, ¬ K (.cells cs 9 fz)) : RulesOwn w' B v l := by
  obtain ⟨tvs, hl, ho, hr⟩ := h
  refine ⟨tvs, hl, hk.owns ho (fun cs => h1 cs _), fun j hj => ?_⟩
  obtain ⟨tv, htv, hrow⟩ := hr j hj
  exact ⟨tv, htv, hk.owns hrow (fun cs => h2 cs _)⟩

/-- A shop at block sb, with its net, held and tape; its memory lies from B on. -/
structure ProgAt (w : World) (B nb hb tb sb : Nat) (rv lv : Value) (rl : List RuleB) (n : NetB) (S : ShopS) (t : TapeS) (tn : Nat) : Prop where
  hsb : B ≤ sb
  shop : w.heap[sb]? = some (.cells #[.pointer (some ⟨nb, 0, none⟩), rv, lv, .pointer (some ⟨hb, 0, none⟩), .pointer (some ⟨tb, 0, none⟩)] 138 (0, 0))
  rules : RulesOwn w B rv rl
  ruled : rl.map ruleOf = S.rules
  lock : WOwn w B lv S.lock
  held : HeldIs w B hb S.held
  tape : TapeIs w B tb t
  net : NetIs w B nb n tn
  apart : nb + 2 ≤ hb
/-- A shop at block sb, whose net lies at nb. -/
def ProgIs (w : World) (B nb sb : Nat) (n : NetB) (S : ShopS) (t : TapeS) (tn : Nat) : Prop := ∃ hb tb rv lv rl, ProgAt w B nb hb tb sb rv lv rl n S t tn
theorem ProgAt.keeps {K : Obj → Prop} {w w' : World} {B B2 nb hb tb sb tn : Nat} {rv lv : Value} {rl : List RuleB} {n : NetB} {S : ShopS} {t : TapeS} (h : ProgAt w B nb hb tb sb rv lv rl n S t tn) (hk : Keeps K B2 w w') (hf : ProgFree K) : ProgAt w' B nb hb tb sb rv lv rl n S t tn where
  hsb := h.hsb
  shop := hk.keep sb _ h.shop (hf.shop _ _)
  rules := h.rules.keeps hk hf.rule hf.str
  ruled := h.ruled
  lock := hk.owns h.lock (fun cs => hf.want cs _)
  held := h.held.keeps hk hf.map hf.held (fun cs => hf.int cs _) (fun cs => hf.file cs _)
  tape := h.tape.keeps hk hf.disk hf.byte
  net := h.net.keeps hk hf.map hf.net
  apart := h.apart
theorem ProgAt.below {w w' : World} {B nb hb tb sb tn : Nat} {rv lv : Value} {rl : List RuleB} {n : NetB} {S : ShopS} {t : TapeS} (h : ProgAt w B nb hb tb sb rv lv rl n S t tn) (hb2 : Below w.heap.size w w') : ProgAt w' B nb hb tb sb rv lv rl n S t tn :=
  h.keeps (K := fun _ => False) (B2 := w.heap.size) (Keeps.of hb2 (Nat.le_refl _)) ⟨fun _ _ h => h, fun _ _ h => h, fun _ _ h => h, fun _ _ h => h, fun _ _ h => h, fun _ _ h => h, fun _ _ h => h, fun _ _ h => h, fun _ _ h => h, fun _ _ h => h, fun _ _ h => h⟩
theorem ProgIs.keeps {K : Obj → Prop} {w w' : World} {B B2 nb sb tn : Nat} {n : NetB} {S : ShopS} {t : TapeS} (h : ProgIs w B nb sb n S t tn) (hk : Keeps K B2 w w') (hf : ProgFree K) : ProgIs w' B nb sb n S t tn := by
  obtain ⟨hb, tb, rv, lv, rl, h⟩ := h
  exact ⟨hb, tb, rv, lv, rl, h.keeps hk hf⟩
theorem ProgIs.below {w w' : World} {B nb sb tn : Nat} {n : NetB} {S : ShopS} {t : TapeS} (h : ProgIs w B nb sb n S t tn) (hb2 : Below w.heap.size w w') : ProgIs w' B nb sb n S t tn := by
  obtain ⟨hb, tb, rv, lv, rl, h⟩ := h
  exact ⟨hb, tb, rv, lv, rl, h.below hb2⟩
theorem ProgIs.later {w : World} {B nb sb tn tn' : Nat} {n : NetB} {S : ShopS} {t : TapeS} (h : ProgIs w B nb sb n S t tn) (ht : tn ≤ tn') : ProgIs w B nb sb n S t tn' := by
  obtain ⟨hb, tb, rv, lv, rl, h⟩ := h
  exact ⟨hb, tb, rv, lv, rl, { h with net := h.net.later ht }⟩

/-- Texts of a piece of a row. -/
def SPart (w : World) (B : Nat) (v : Value) (zs : List ByteArray) : Prop :=
  (zs = [] ∧ ∃ a c, v = .slice a 0 c ∧ c ≤ maxLen ∧ (a = none → c = 0)) ∨ ∃ g off cap cur, v = .slice (some ⟨g, off, none⟩) zs.length cap ∧ B ≤ g ∧ w.heap[g]? = some (.cells cur 9 (0, 0)) ∧ zs.length ≤ cap ∧ cap ≤ maxLen ∧ ∀ i, (hi : i < zs.length) → cur[off + i]? = some (.string zs[i])
theorem SPart.keeps {K : Obj → Prop} {w w' : World} {B B2 : Nat} {v : Value} {zs : List ByteArray} (h : SPart w B v zs) (hk : Keeps K B2 w w') (h1 : ∀ cs fz, ¬ K (.cells cs 9 fz)) : SPart w' B v zs := by
  rcases h with h | ⟨g, off, cap, cur, e, q1, q2, q3⟩
  · exact .inl h
  · exact .inr ⟨g, off, cap, cur, e, q1, hk.keep g _ q2 (h1 _ _), q3⟩
theorem SPart.row {w : World} {B : Nat} {v : Value} {zs : List ByteArray} (h : SPart w B v zs) : RowP w v zs := by
  rcases h with ⟨rfl, a, c, rfl, hc, hn⟩ | ⟨g, off, cap, cur, rfl, q1, q2, q3, q4, q5⟩
  · exact ⟨a, c, rfl, Nat.zero_le _, hc, hn, fun i hi => absurd hi (Nat.not_lt_zero _)⟩
  · refine ⟨_, cap, rfl, q3, q4, (fun h => by cases h), fun i hi => ⟨g, off, rfl, (Array.getElem?_eq_some_iff.1 q2).1, fun k hk => ?_⟩⟩
    rw [Lib.cell_of_heap q2]
    exact q5 k hk
/-- The reference's rules. -/
def RRules (w : World) (B : Nat) (v : Value) (l : List RuleB) : Prop :=
  ∃ tvs : List Value, tvs.length = l.length ∧ w.ownsRow B 58 2 v l.length ((l.zip tvs).flatMap fun p => [Value.string p.1.1, p.2]) ∧
    ∀ j, (hj : j < l.length) → ∃ tv, tvs[j]? = some tv ∧ SPart w B tv l[j].2
theorem RRules.keeps {K : Obj → Prop} {w w' : World} {B B2 : Nat} {v : Value} {l : List RuleB} (h : RRules w B v l) (hk : Keeps K B2 w w') (h1 : ∀ cs fz, ¬ K (.cells cs 58 fz)) (h2 : ∀ cs fz, ¬ K (.cells cs 9 fz)) : RRules w' B v l := by
  obtain ⟨tvs, hl, ho, hr⟩ := h
  refine ⟨tvs, hl, hk.owns ho (fun cs => h1 cs _), fun j hj => ?_⟩
  obtain ⟨tv, htv, hrow⟩ := hr j hj
  exact ⟨tv, htv, hrow.keeps hk h2⟩
theorem RRules.row {w : World} {base : Nat} {v : Value} {l : List RuleB} (h : RRules w base v l) : RulesRow w v l := by
  obtain ⟨tvs, hl, ho, hr⟩ := h
  rcases id ho.2 with ⟨rfl, h0⟩ | ⟨g, cap, cur, rfl, hb, hg, hn, hc, hsz, ht⟩
  · refine ⟨none, 0, by rw [h0], by omega, Nat.zero_le _, fun i hi => by omega⟩
  · refine ⟨some ⟨g, 0, none⟩, cap, rfl, hn, hc, fun i hi => ⟨g, 0, rfl, (Array.getElem?_eq_some_iff.1 hg).1, fun j hj => ?_⟩⟩
    obtain ⟨tv, htv, hrow⟩ := hr j hj
    have hz : (l.zip tvs)[j]? = some (l[j], tv) := by rw [List.getElem?_zip_eq_some]; exact ⟨List.getElem?_eq_getElem hj, htv⟩
    have hzl : j < (l.zip tvs).length := (List.getElem?_eq_some_iff.1 hz).1
    have hz2 : (l.zip tvs)[j] = (l[j], tv) := (List.getElem?_eq_some_iff.1 hz).2
    have e0 := flatMap_at (fun p : RuleB × Value => [Value.string p.1.1, p.2]) 2 (fun _ => rfl) (l.zip tvs) j 0 hzl (by decide)
    have e1 := flatMap_at (fun p : RuleB × Value => [Value.string p.1.1, p.2]) 2 (fun _ => rfl) (l.zip tvs) j 1 hzl (by decide)
    rw [hz2] at e0 e1
    have c0 := ho.cells (g := g) rfl (j * 2 + 0) (.string l[j].1) e0
    have c1 := ho.cells (g := g) rfl (j * 2 + 1) tv e1
    rw [Addr.add_lit] at c0 c1
    exact ⟨by simpa using c0, tv, by simpa [Nat.add_assoc] using c1, hrow.row⟩

/-- Kinds that are none of the reference's. -/
structure RefFree (K : Obj → Prop) : Prop where
  net : ∀ cs fz, ¬ K (.cells cs 44 fz)
  site : ∀ cs fz, ¬ K (.cells cs 272 fz)
  held : ∀ cs fz, ¬ K (.cells cs 128 fz)
  tree : ∀ cs fz, ¬ K (.cells cs 130 fz)
  tape : ∀ cs fz, ¬ K (.cells cs 47 fz)
  shop : ∀ cs fz, ¬ K (.cells cs 108 fz)
  rule : ∀ cs fz, ¬ K (.cells cs 58 fz)
  want : ∀ cs fz, ¬ K (.cells cs 60 fz)
  file : ∀ cs fz, ¬ K (.cells cs 149 fz)
  str : ∀ cs fz, ¬ K (.cells cs 9 fz)
def refTypes : List TypeId := [44, 272, 128, 130, 47, 108, 58, 60, 149, 9]
theorem RefFree.of_type (T : TypeId) (hT : ∀ x ∈ refTypes, x ≠ T) : RefFree (fun o => ∃ cs fz, o = .cells cs T fz) where
  net := fun _ _ ⟨_, _, h⟩ => by injection h with _ h _; exact hT _ (by simp [refTypes]) h
  site := fun _ _ ⟨_, _, h⟩ => by injection h with _ h _; exact hT _ (by simp [refTypes]) h
  held := fun _ _ ⟨_, _, h⟩ => by injection h with _ h _; exact hT _ (by simp [refTypes]) h
  tree := fun _ _ ⟨_, _, h⟩ => by injection h with _ h _; exact hT _ (by simp [refTypes]) h
  tape := fun _ _ ⟨_, _, h⟩ => by injection h with _ h _; exact hT _ (by simp [refTypes]) h
  shop := fun _ _ ⟨_, _, h⟩ => by injection h with _ h _; exact hT _ (by simp [refTypes]) h
  rule := fun _ _ ⟨_, _, h⟩ => by injection h with _ h _; exact hT _ (by simp [refTypes]) h
  want := fun _ _ ⟨_, _, h⟩ => by injection h with _ h _; exact hT _ (by simp [refTypes]) h
  file := fun _ _ ⟨_, _, h⟩ => by injection h with _ h _; exact hT _ (by simp [refTypes]) h
  str := fun _ _ ⟨_, _, h⟩ => by injection h with _ h _; exact hT _ (by simp [refTypes]) h
theorem RefFree.or {K L : Obj → Prop} (h : RefFree K) (k : RefFree L) : RefFree (fun o => K o ∨ L o) where
  net := fun a b h1 => h1.elim (h.net a b) (k.net a b)
  site := fun a b h1 => h1.elim (h.site a b) (k.site a b)
  held := fun a b h1 => h1.elim (h.held a b) (k.held a b)
  tree := fun a b h1 => h1.elim (h.tree a b) (k.tree a b)
  tape := fun a b h1 => h1.elim (h.tape a b) (k.tape a b)
  shop := fun a b h1 => h1.elim (h.shop a b) (k.shop a b)
  rule := fun a b h1 => h1.elim (h.rule a b) (k.rule a b)
  want := fun a b h1 => h1.elim (h.want a b) (k.want a b)
  file := fun a b h1 => h1.elim (h.file a b) (k.file a b)
  str := fun a b h1 => h1.elim (h.str a b) (k.str a b)
theorem RefFree.map : RefFree (fun o => ∃ es c, o = .map es c) := ⟨(fun _ _ ⟨_, _, h⟩ => by cases h), (fun _ _ ⟨_, _, h⟩ => by cases h), (fun _ _ ⟨_, _, h⟩ => by cases h), (fun _ _ ⟨_, _, h⟩ => by cases h), (fun _ _ ⟨_, _, h⟩ => by cases h), (fun _ _ ⟨_, _, h⟩ => by cases h), (fun _ _ ⟨_, _, h⟩ => by cases h), (fun _ _ ⟨_, _, h⟩ => by cases h), (fun _ _ ⟨_, _, h⟩ => by cases h), (fun _ _ ⟨_, _, h⟩ => by cases h)⟩
theorem rfree_fault : RefFree FaultRow := RefFree.of_type 38 (by decide)

/-- The reference's shop at block sb. -/
structure RefAt (W0 w : World) (B nb hb tb sb : Nat) (rv lv : Value) (rl : List RuleB) (n : NetB) (S : ShopS) (t : TapeS) : Prop where
  hsb : B ≤ sb
  htb : B ≤ tb
  shop : w.heap[sb]? = some (.cells #[.pointer (some ⟨nb, 0, none⟩), rv, lv, .pointer (some ⟨hb, 0, none⟩), .pointer (some ⟨tb, 0, none⟩)] 108 (0, 0))
  rules : RRules w B rv rl
  ruled : rl.map ruleOf = S.rules
  lock : WOwn w B lv S.lock
  held : RHeldIs W0 w B hb S.held
  tape : RTapeS w tb t
  net : RNetIs w B nb n
def RefIs (W0 w : World) (B sb : Nat) (n : NetB) (S : ShopS) (t : TapeS) : Prop := ∃ nb hb tb rv lv rl, RefAt W0 w B nb hb tb sb rv lv rl n S t
theorem RTapeS.keeps {K : Obj → Prop} {w w' : World} {B2 m : Nat} {t : TapeS} (h : RTapeS w m t) (hk : Keeps K B2 w w') (h1 : ∀ cs fz, ¬ K (.cells cs 47 fz)) : RTapeS w' m t := by
  obtain ⟨b, q1, q2, q3⟩ := h
  exact ⟨b, q1, hk.keep m _ q2 (h1 _ _), q3⟩
theorem RefAt.keeps {K : Obj → Prop} {W0 w w' : World} {B B2 nb hb tb sb : Nat} {rv lv : Value} {rl : List RuleB} {n : NetB} {S : ShopS} {t : TapeS} (h : RefAt W0 w B nb hb tb sb rv lv rl n S t) (hk : Keeps K B2 w w') (hf : RefFree K) : RefAt W0 w' B nb hb tb sb rv lv rl n S t where
  hsb := h.hsb
  htb := h.htb
  shop := hk.keep sb _ h.shop (hf.shop _ _)
  rules := h.rules.keeps hk hf.rule hf.str
  ruled := h.ruled
  lock := hk.owns h.lock (fun cs => hf.want cs _)
  held := h.held.keeps hk hf.held (fun cs => hf.tree cs _) (fun cs => hf.file cs _)
  tape := h.tape.keeps hk hf.tape
  net := h.net.keeps hk (fun cs => hf.net cs _) (fun cs => hf.site cs _) (fun cs => hf.str cs _)
theorem RefAt.below {W0 w w' : World} {B nb hb tb sb : Nat} {rv lv : Value} {rl : List RuleB} {n : NetB} {S : ShopS} {t : TapeS} (h : RefAt W0 w B nb hb tb sb rv lv rl n S t) (hb2 : Below w.heap.size w w') : RefAt W0 w' B nb hb tb sb rv lv rl n S t :=
  h.keeps (K := fun _ => False) (B2 := w.heap.size) (Keeps.of hb2 (Nat.le_refl _)) ⟨fun _ _ h => h, fun _ _ h => h, fun _ _ h => h, fun _ _ h => h, fun _ _ h => h, fun _ _ h => h, fun _ _ h => h, fun _ _ h => h, fun _ _ h => h, fun _ _ h => h⟩
theorem RefIs.keeps {K : Obj → Prop} {W0 w w' : World} {B B2 sb : Nat} {n : NetB} {S : ShopS} {t : TapeS} (h : RefIs W0 w B sb n S t) (hk : Keeps K B2 w w') (hf : RefFree K) : RefIs W0 w' B sb n S t := by
  obtain ⟨nb, hb, tb, rv, lv, rl, h⟩ := h
  exact ⟨nb, hb, tb, rv, lv, rl, h.keeps hk hf⟩
theorem RefIs.below {W0 w w' : World} {B sb : Nat} {n : NetB} {S : ShopS} {t : TapeS} (h : RefIs W0 w B sb n S t) (hb2 : Below w.heap.size w w') : RefIs W0 w' B sb n S t := by
  obtain ⟨nb, hb, tb, rv, lv, rl, h⟩ := h
  exact ⟨nb, hb, tb, rv, lv, rl, h.below hb2⟩
end Go.Proofs.YtcjjbpoaojjojaaGreatDoor
