/- Plain: rules of mirrors, and the ways to a link. No program in sight. Rules' error, in plain Lean. package mirror: one, Check by their contracts. mirror.Ways by its contract. chandlerylaw2.LongRules, OwnRules by their contracts. -/
import Derived.Test.YtcjjbpoaojjojaaGreatDoorJPlainly
import Derived.Test.YtcjjbpoaojjojaaGreatDoorJErrors
import Derived.Test.YtcjjbpoaojjojaaGreatDoorJRefLinkUp
import Derived.Test.YtcjjbpoaojjojaaGreatDoorJRowedEtc
namespace Go.Proofs.YtcjjbpoaojjojaaGreatDoor
open Go

/-- A rule: what a link begins with; what is put in its place. -/
abbrev RuleL := List UInt8 × List (List UInt8)
def firstE : List (List UInt8) → Nat
  | [] => 0
  | t :: r => if beginE t = 0 then firstE r else beginE t
def oneE (r : RuleL) : Nat := if beginE r.1 = 0 then (if 8 < r.2.length then 8 else firstE r.2) else beginE r.1
/-- The first rule that is none: where, and its error. -/
def badAt : Nat → List RuleL → Option (Nat × Nat)
  | _, [] => none
  | i, r :: l => if oneE r = 0 then badAt (i + 1) l else some (i, oneE r)
/-- Which rule: the longest with which a link begins, the first of these. -/
def takes (s : List UInt8) (acc : Option RuleL) (r : RuleL) : Bool := Lib.hasPrefix s r.1 && (match acc with | none => true | some q => decide (q.1.length < r.1.length))
def pickR (s : List UInt8) : Option RuleL → List RuleL → Option RuleL
  | acc, [] => acc
  | acc, r :: l => pickR s (if takes s acc r then some r else acc) l
/-- The links that come of one rule, each once. -/
def waysGo (f s : List UInt8) : List (List UInt8) → List (List UInt8) → List (List UInt8)
  | out, [] => out
  | out, t :: r => if swapE f t s = 0 ∧ ¬ (swapT f t s) ∈ out then waysGo f s (out ++ [swapT f t s]) r else waysGo f s out r
def waysR (s : List UInt8) : Option RuleL → List (List UInt8)
  | none => []
  | some r => waysGo r.1 s [] r.2
def waysOut (l : List RuleL) (s : List UInt8) : List (List UInt8) :=
  if s ∈ waysR s (pickR s none l) then waysR s (pickR s none l) else waysR s (pickR s none l) ++ [s]

theorem firstE_le : ∀ l, firstE l ≤ 13
  | [] => by decide
  | t :: r => by rw [firstE]; split; exact firstE_le r; exact beginE_le t
theorem oneE_le (r : RuleL) : oneE r ≤ 13 := by
  unfold oneE
  split
  · split
    · decide
    · exact firstE_le _
  · exact beginE_le _
theorem badAt_le : ∀ (l : List RuleL) (i : Nat) {p : Nat × Nat}, badAt i l = some p → p.2 ≤ 13 ∧ p.2 ≠ 0
  | [], _, _, h => by cases h
  | r :: l, i, p, h => by
    rw [badAt] at h
    split at h
    · exact badAt_le l _ h
    · rename_i h0; obtain rfl := Option.some.inj h; exact ⟨oneE_le r, h0⟩
theorem badAt_none : ∀ (l : List RuleL) (i : Nat), badAt i l = none ↔ ∀ r ∈ l, oneE r = 0
  | [], _ => by simp [badAt]
  | r :: l, i => by
    rw [badAt]
    split
    · rename_i h; rw [badAt_none l]; simp [h]
    · rename_i h; simp [h]
end Go.Proofs.YtcjjbpoaojjojaaGreatDoor

namespace Go.Proofs.YtcjjbpoaojjojaaGreatDoor
open Go

/-- Rules' error: a number, and where. -/
def rulesEr (l : List RuleL) : Er := if 10 < l.length then ⟨8, none⟩ else match badAt 0 l with
  | none => ⟨0, none⟩
  | some p => ⟨p.2, some (p.1 : Int)⟩
theorem rulesEr_zero {l : List RuleL} (h : (rulesEr l).code = 0) : rulesEr l = ⟨0, none⟩ ∧ l.length ≤ 10 ∧ ∀ r ∈ l, oneE r = 0 := by
  unfold rulesEr at h ⊢
  split at h
  · cases h
  · rename_i h10
    rw [if_neg h10]
    cases hb : badAt 0 l with
    | none => exact ⟨rfl, by omega, (badAt_none l 0).1 hb⟩
    | some p =>
      rw [hb] at h
      exact absurd h (badAt_le l 0 hb).2
end Go.Proofs.YtcjjbpoaojjojaaGreatDoor

namespace Go.Proofs.YtcjjbpoaojjojaaGreatDoor
open Go Go.RowKit

/-- A rule as memory holds it. -/
abbrev RuleB := ByteArray × List ByteArray
def ruleOf (r : RuleB) : RuleL := (bl r.1, r.2.map bl)
/-- The slice value v reads in w as these texts; where there are none, it may have any address. -/
def RowP (w : World) (v : Value) (l : List ByteArray) : Prop :=
  ∃ ao cap, v = .slice ao l.length cap ∧ l.length ≤ cap ∧ cap ≤ maxLen ∧ (ao = none → cap = 0) ∧ (∀ i, i < l.length → ∃ b off, ao = some ⟨b, off, none⟩ ∧ b < w.heap.size ∧ ∀ k, (hk : k < l.length) → w.cell? ⟨b, off + k, none⟩ = some (.string l[k]))
theorem RowP.parts {w : World} {v : Value} {l : List ByteArray} (h : RowP w v l) :
    ∃ ao cap, v = .slice ao l.length cap ∧ l.length ≤ cap ∧ cap ≤ maxLen ∧ (∀ i, (hi : i < l.length) → ∃ b off, ao = some ⟨b, off, none⟩ ∧ b < w.heap.size ∧ ∀ k, (hk : k < l.length) → w.cell? ⟨b, off + k, none⟩ = some (.string l[k])) := by
  obtain ⟨ao, cap, h1, h2, h3, _, h5⟩ := h
  exact ⟨ao, cap, h1, h2, h3, h5⟩
theorem RowP.ext {w w' : World} {v : Value} {l : List ByteArray} (h : RowP w v l) (hb : Below w.heap.size w w') : RowP w' v l := by
  obtain ⟨ao, cap, h1, h2, h3, h4, h5⟩ := h
  refine ⟨ao, cap, h1, h2, h3, h4, fun i hi => ?_⟩
  obtain ⟨b, off, e, hlt, hc⟩ := h5 i hi
  exact ⟨b, off, e, Nat.lt_of_lt_of_le hlt hb.size, fun k hk => (hb.cell (p := ⟨b, off + k, none⟩) hlt).trans (hc k hk)⟩
theorem RowP.of_row {w : World} {v : Value} {l : List ByteArray} (h : Row encStr 1 w v l) : RowP w v l := by
  rcases h.one with ⟨rfl, rfl⟩ | ⟨b, off, cap, rfl, h1, h2, h3, h4⟩
  · exact ⟨none, 0, rfl, Nat.le_refl _, Nat.zero_le _, fun _ => rfl, fun i hi => absurd hi (Nat.not_lt_zero _)⟩
  · exact ⟨some ⟨b, off, none⟩, cap, rfl, h1, h2, (fun h => by cases h), fun i hi => ⟨b, off, rfl, h3, h4⟩⟩
/-- The slice value v reads in w as the rules l. -/
def RulesRow (w : World) (v : Value) (l : List RuleB) : Prop :=
  ∃ ao cap, v = .slice ao l.length cap ∧ l.length ≤ cap ∧ cap ≤ maxLen ∧ ∀ i, i < l.length → ∃ b off, ao = some ⟨b, off, none⟩ ∧ b < w.heap.size ∧
    ∀ j, (hj : j < l.length) → w.cell? ⟨b, off + j * 2, none⟩ = some (.string l[j].1) ∧ ∃ tv, w.cell? ⟨b, off + j * 2 + 1, none⟩ = some tv ∧ RowP w tv l[j].2
theorem RulesRow.ext {w w' : World} {v : Value} {l : List RuleB} (h : RulesRow w v l) (hb : Below w.heap.size w w') : RulesRow w' v l := by
  obtain ⟨ao, cap, h1, h2, h3, h4⟩ := h
  refine ⟨ao, cap, h1, h2, h3, fun i hi => ?_⟩
  obtain ⟨b, off, e, hlt, hc⟩ := h4 i hi
  refine ⟨b, off, e, Nat.lt_of_lt_of_le hlt hb.size, fun j hj => ?_⟩
  obtain ⟨c1, tv, c2, c3⟩ := hc j hj
  exact ⟨(hb.cell (p := ⟨b, off + j * 2, none⟩) hlt).trans c1, tv, (hb.cell (p := ⟨b, off + j * 2 + 1, none⟩) hlt).trans c2, c3.ext hb⟩
/-- Rules that are few and short. -/
def Small (r : RuleB) : Prop := r.1.size ≤ 120 ∧ r.2.length ≤ 10 ∧ ∀ t ∈ r.2, t.size ≤ 120
/-- A rule of any record of a tape. -/
def Fair (r : RuleB) : Prop := r.1.size ≤ 30000 ∧ r.2.length ≤ 30000 ∧ ∀ t ∈ r.2, t.size ≤ 30000
theorem Small.fair {r : RuleB} (h : Small r) : Fair r := ⟨by have := h.1; omega, by have := h.2.1; omega, fun t ht => by have := h.2.2 t ht; omega⟩

theorem drop_bl (ts : List ByteArray) (k : Nat) (h : k < ts.length) : (ts.map bl).drop k = bl ts[k] :: (ts.map bl).drop (k + 1) := by
  rw [List.drop_eq_getElem_cons (by rw [List.length_map]; exact h), List.getElem_map]
theorem drop_end (ts : List ByteArray) : (ts.map bl).drop ts.length = [] := List.drop_of_length_le (by rw [List.length_map]; exact Nat.le_refl _)

set_option maxHeartbeats 400000 in
set_option maxRecDepth 100000 in
theorem ruleOne_any {E : Nat → Addr} (f : ByteArray) (tv : Value) (ts : List ByteArray) (w : World) (hs : Fair (f, ts)) (hv : RowP w tv ts) (hE : LEnv E w) :
    Calls Tryz.prog 182 #[.agg #[.string f, tv]] w fun e w' => e = .returned (errV E (oneE (ruleOf (f, ts)))) ∧ Below w.heap.size w w' := by
  obtain ⟨hf, hn, ht⟩ := hs
  obtain ⟨ao, cap, rfl, h1, h2, H3⟩ := hv.parts
  have HM := Lib.hid H3
  have HT := Lib.hid ht
  have HE := Lib.hid hE
  clear H3 hv ht hE
  have b0 : Below w.heap.size w (w.alloc (.cells #[.string f, .slice ao ts.length cap] 58)) := (Below.refl _ w).alloc (Nat.le_refl _) _
  have k0 : (w.alloc (.cells #[.string f, .slice ao ts.length cap] 58)).cell? ⟨w.heap.size, 0, none⟩ = some (.string f) := by rw [World.cell?_alloc_at _ _ _ _ rfl]; rfl
  have k1 : (w.alloc (.cells #[.string f, .slice ao ts.length cap] 58)).cell? ⟨w.heap.size, 1, none⟩ = some (.slice ao ts.length cap) := by rw [World.cell?_alloc_at _ _ _ _ rfl]; rfl
  have kb : w.heap.size < (w.alloc (.cells #[.string f, .slice ao ts.length cap] 58)).heap.size := by simp
  go_enter Tryz.func182, Tryz.ntmps182
  go_wp2_with fail
  generalize hW : w.alloc (.cells #[.string f, .slice ao ts.length cap] 58) = W at *
  clear hW
  have C := Lib.hid (linkBegins_any f W (by have : f.size ≤ 30000 := hf; omega) (HE.out.ext b0))
  refine C.out.mono ?_
  clear C
  rintro e w1 ⟨rfl, hb⟩
  have b1 := b0.trans (hb.mono b0.size)
  have c1 := (hb.cell (p := ⟨w.heap.size, 1, none⟩) kb).trans k1
  clear hb k0 k1 kb b0
  cases hc : beginE (bl f) with
  | succ c =>
    have HX : Hid (oneE (ruleOf (f, ts)) = c + 1) := by show _ = _; unfold oneE ruleOf; rw [if_neg (by rw [hc]; omega), hc]
    rw [show errV E (c + 1) = sentV E c from rfl]
    clear hc
    go_wp2_with fail
    go_ret
    exact ⟨by rw [HX.out]; rfl, b1⟩
  | zero =>
    rw [show errV E 0 = .nilIface from rfl]
    by_cases h8 : ts.length ≤ 8
    · have HX : Hid (oneE (ruleOf (f, ts)) = firstE (ts.map bl)) := by show _ = _; unfold oneE ruleOf; rw [if_pos hc, if_neg (by simp; omega)]
      clear hc
      go_wp2_with fail
      go_loopw [21] (fun i wr => ∃ k : Nat, k ≤ ts.length ∧ i = .int .i64 k ∧ Hid (firstE (ts.map bl) = firstE ((ts.map bl).drop k)) ∧ Below w1.heap.size w1 wr) (fun i _ => ts.length - (intOf i).toNat)
      case atStart => exact ⟨0, Nat.zero_le _, rfl, rfl, Below.refl _ _⟩
      case round =>
        obtain ⟨k, hk, rfl, HF, hb⟩ := hrel
        have b2 := b1.trans (hb.mono b1.size)
        by_cases hlt : k < ts.length
        · obtain ⟨b, off, rfl, hbl, hcell⟩ := HM.out k hlt
          have cl := (b2.cell (p := ⟨b, off + k, none⟩) hbl).trans (hcell k hlt)
          have sz := HT.out ts[k] (List.getElem_mem hlt)
          have HD := Lib.hid (drop_bl ts k hlt)
          clear hcell
          generalize ts[k] = t at cl sz HD
          have C := Lib.hid (linkBegins_any t wr (by omega) (HE.out.ext b2))
          go_wp2_with fail
          refine C.out.mono ?_
          clear C
          rintro e w3 ⟨rfl, hb3⟩
          cases hc : beginE (bl t) with
          | succ c =>
            have HY : Hid (firstE (ts.map bl) = c + 1) := by show _ = _; rw [HF.out, HD.out, firstE, if_neg (by omega), hc]
            rw [show errV E (c + 1) = sentV E c from rfl]
            clear hc HF HD
            go_wp2_with fail
            go_ret
            exact ⟨by rw [HX.out, HY.out]; rfl, b2.trans (hb3.mono b2.size)⟩
          | zero =>
            have HY : Hid (firstE (ts.map bl) = firstE ((ts.map bl).drop (k + 1))) := by show _ = _; rw [HF.out, HD.out, firstE, if_pos hc]
            rw [show errV E 0 = .nilIface from rfl]
            clear hc HF HD
            go_wp2_with fail
            go_roundw
            case rel => exact ⟨k + 1, by omega, by go_num, HY, hb.trans (hb3.mono hb.size)⟩
            case measure => simp [intOf]; omega
        · obtain rfl : k = ts.length := by omega
          have HY : Hid (firstE (ts.map bl) = 0) := by show _ = _; rw [HF.out, drop_end]; rfl
          go_wp2_with fail
          go_ret
          exact ⟨by rw [HX.out, HY.out]; rfl, b2⟩
    · have HX : Hid (oneE (ruleOf (f, ts)) = 7 + 1) := by show _ = _; unfold oneE ruleOf; rw [if_pos hc, if_pos (by simp; omega)]
      have c2 := (HE.out.ext b1).path.full
      clear hc
      go_wp2_with fail
      go_ret
      exact ⟨by rw [HX.out]; rfl, b1⟩

/-- What mirror.Check hands back. -/
def CheckPost (E : Nat → Addr) (l : List RuleB) (w : World) (e : Ending) (w' : World) : Prop :=
  (∃ ev, e = .returned ev ∧ Hid (IsErr E w' ev (rulesEr (l.map ruleOf)))) ∧ Below w.heap.size w w'

theorem drop_rule (l : List RuleB) (k : Nat) (h : k < l.length) : (l.map ruleOf).drop k = ruleOf l[k] :: (l.map ruleOf).drop (k + 1) := by
  rw [List.drop_eq_getElem_cons (by rw [List.length_map]; exact h), List.getElem_map]
theorem drop_rules (l : List RuleB) : (l.map ruleOf).drop l.length = [] := List.drop_of_length_le (by rw [List.length_map]; exact Nat.le_refl _)

set_option maxHeartbeats 1000000 in
set_option maxRecDepth 100000 in
theorem mirrorCheck_any {E : Nat → Addr} (v : Value) (l : List RuleB) (w : World) (hl : l.length ≤ 1000) (hs : ∀ r ∈ l, Fair r) (hv : RulesRow w v l) (hE : LEnv E w) :
    Calls Tryz.prog 112 #[v] w (CheckPost E l w) := by
  have HR := Lib.hid hv
  obtain ⟨ao, cap, rfl, h1, h2, H3⟩ := hv
  have HM := Lib.hid H3
  have HS := Lib.hid hs
  have HE := Lib.hid hE
  clear H3 hs hE
  go_enter Tryz.func112, Tryz.ntmps112
  by_cases h10 : l.length ≤ 10
  · have HX : Hid (rulesEr (l.map ruleOf) = match badAt 0 (l.map ruleOf) with
        | none => ⟨0, none⟩
        | some p => ⟨p.2, some (p.1 : Int)⟩) := by show _ = _; unfold rulesEr; rw [if_neg (by rw [List.length_map]; omega)]; first | done | (cases badAt 0 (l.map ruleOf) <;> rfl)
    go_wp2_with fail
    go_loopw [12] (fun i wr => ∃ k : Nat, k ≤ l.length ∧ i = .int .i64 k ∧ Hid (badAt 0 (l.map ruleOf) = badAt k ((l.map ruleOf).drop k)) ∧ Below w.heap.size w wr) (fun i _ => l.length - (intOf i).toNat)
    case atStart => exact ⟨0, Nat.zero_le _, rfl, rfl, Below.refl _ _⟩
    case round =>
      obtain ⟨k, hk, rfl, HF, hb⟩ := hrel
      by_cases hlt : k < l.length
      · obtain ⟨b, off, rfl, hbl, hcell⟩ := HM.out k hlt
        obtain ⟨d1, tv, d2, d3⟩ := hcell k hlt
        have cl1 := (hb.cell (p := ⟨b, off + k * 2, none⟩) hbl).trans d1
        have cl2 := (hb.cell (p := ⟨b, off + k * 2 + 1, none⟩) hbl).trans d2
        have HT := Lib.hid (d3.ext hb)
        have HZ := Lib.hid (HS.out l[k] (List.getElem_mem hlt))
        have HD := Lib.hid (drop_rule l k hlt)
        clear hcell d1 d2 d3
        generalize l[k] = r at cl1 HT HZ HD
        obtain ⟨f, ts⟩ := r
        obtain ⟨ao2, cap2, rfl, _⟩ := id HT.out
        simp only at cl1
        have C := Lib.hid (fun W (hb2 : Below wr.heap.size wr W) => ruleOne_any f _ ts W HZ.out (HT.out.ext hb2) (HE.out.ext (hb.trans (hb2.mono hb.size))))
        go_wp2_with fail
        refine (C.out _ ((Below.refl _ wr).alloc (Nat.le_refl _) _)).mono ?_
        clear C
        rintro e w3 ⟨rfl, hb3⟩
        have b3 := hb.trans ((((Below.refl wr.heap.size wr).alloc (Nat.le_refl _) (.cells #[.string f, .slice ao2 ts.length cap2] 58)).trans (hb3.mono (by simp))).mono hb.size)
        have hle := oneE_le (ruleOf (f, ts))
        obtain ⟨c, hc⟩ : ∃ c, oneE (ruleOf (f, ts)) = c := ⟨_, rfl⟩
        rw [hc] at hle ⊢
        cases c with
        | succ c =>
          have HY : Hid (rulesEr (l.map ruleOf) = ⟨c + 1, some (k : Int)⟩) := by
            show _ = _
            rw [HX.out, HF.out, HD.out, badAt, if_neg (by rw [hc]; omega), hc]
          rw [show errV E (c + 1) = sentV E c from rfl]
          clear hc HF HD
          go_wp2_with fail
          go_ret
          refine ⟨⟨_, rfl, ?_⟩, b3.alloc b3.size _⟩
          show IsErr _ _ _ _
          rw [HY.out]
          exact IsErr.fault E _ c (by omega) _ _ (by rw [World.cell?_alloc_at _ _ _ _ rfl]; rfl) (by rw [World.cell?_alloc_at _ _ _ _ rfl]; rfl)
        | zero =>
          have HY : Hid (badAt 0 (l.map ruleOf) = badAt (k + 1) ((l.map ruleOf).drop (k + 1))) := by
            show _ = _
            rw [HF.out, HD.out, badAt, if_pos hc]
          rw [show errV E 0 = .nilIface from rfl]
          clear hc HF HD
          go_wp2_with fail
          go_roundw
          case rel => exact ⟨k + 1, by omega, by go_num, HY, b3⟩
          case measure => simp [intOf]; omega
      · obtain rfl : k = l.length := by omega
        have HY : Hid (rulesEr (l.map ruleOf) = ⟨0, none⟩) := by show _ = _; rw [HX.out, HF.out, drop_rules]; rfl
        go_wp2_with fail
        go_ret
        exact ⟨⟨_, rfl, by show IsErr _ _ _ _; rw [HY.out]; exact IsErr.nil E _⟩, hb⟩
  · have HX : Hid (rulesEr (l.map ruleOf) = ⟨7 + 1, none⟩) := by show _ = _; unfold rulesEr; rw [if_pos (by rw [List.length_map]; omega)]
    have c2 := HE.out.path.full
    go_wp2_with fail
    go_ret
    exact ⟨⟨_, rfl, by show IsErr _ _ _ _; rw [HX.out]; exact IsErr.base E _ 7 (by decide)⟩, Below.refl _ _⟩
end Go.Proofs.YtcjjbpoaojjojaaGreatDoor

namespace Go.Proofs.YtcjjbpoaojjojaaGreatDoor
open Go Go.RowKit

/-- The error of Ways: the rules', or the link's. -/
def waysEr (l : List RuleL) (s : List UInt8) : Er := if (rulesEr l).code = 0 then ⟨linkE s, none⟩ else rulesEr l
/-- What mirror.Ways hands back. -/
def WaysPost (E : Nat → Addr) (l : List RuleB) (s : ByteArray) (w : World) (e : Ending) (w' : World) : Prop :=
  (∃ ov ev xs, e = .returned (.tuple #[ov, ev]) ∧ Hid (IsErr E w' ev (waysEr (l.map ruleOf) (bl s))) ∧ Hid (Row encStr 1 w' ov xs) ∧
    Hid (xs.map bl = if (waysEr (l.map ruleOf) (bl s)).code = 0 then waysOut (l.map ruleOf) (bl s) else []) ∧ xs.length ≤ 20) ∧ Below w.heap.size w w'
theorem WaysPost.bad {E : Nat → Addr} {l : List RuleB} {s : ByteArray} {w w' : World} {ev : Value} (h : Hid (IsErr E w' ev (waysEr (l.map ruleOf) (bl s)))) (h0 : (waysEr (l.map ruleOf) (bl s)).code ≠ 0) (hb : Below w.heap.size w w') :
    WaysPost E l s w (.returned (.tuple #[.slice none 0 0, ev])) w' :=
  ⟨⟨_, ev, [], rfl, h, Row.nil _ _ _, by show _ = _; rw [if_neg h0]; rfl, Nat.zero_le _⟩, hb⟩

theorem Tryz.infoW : (Tryz.prog.info? 9).map (fun i => (i.zero, i.size, i.bytes)) = some (some (.string ⟨#[]⟩), 1, 16) := by kernel_rfl
theorem flatStr (l : List ByteArray) : l.flatMap encStr = l.map Value.string := by
  induction l with
  | nil => rfl
  | cons x l ih => rw [List.flatMap_cons, ih]; rfl
theorem row_of_own {w : World} {base : Nat} {v : Value} {xs : List ByteArray} (h : w.ownsRow base 9 1 v xs.length (xs.map Value.string)) : Row encStr 1 w v xs :=
  Row.of_owns (enc := encStr) (base := base) (e := 9) (fun _ => rfl) (by rw [flatStr]; exact h)

end Go.Proofs.YtcjjbpoaojjojaaGreatDoor

namespace Go.Proofs.YtcjjbpoaojjojaaGreatDoor
open Go Go.RowKit

/-- Rules that the call owns: their row, and each row of theirs. -/
def RulesOwn (w : World) (base : Nat) (v : Value) (l : List RuleB) : Prop :=
  ∃ tvs : List Value, tvs.length = l.length ∧ w.ownsRow base 58 2 v l.length ((l.zip tvs).flatMap fun p => [Value.string p.1.1, p.2]) ∧
    ∀ j, (hj : j < l.length) → ∃ tv, tvs[j]? = some tv ∧ w.ownsRow base 9 1 tv l[j].2.length (l[j].2.map Value.string)
theorem Tryz.infoR : (Tryz.prog.info? 58).map (fun i => (i.zero, i.size, i.bytes)) = some (some (.agg #[.string ⟨#[]⟩, .slice none 0 0]), 2, 40) := by kernel_rfl

theorem RulesOwn.row {w : World} {base : Nat} {v : Value} {l : List RuleB} (h : RulesOwn w base v l) : RulesRow w v l := by
  obtain ⟨tvs, hl, ho, hr⟩ := h
  rcases id ho.2 with ⟨rfl, h0⟩ | ⟨g, cap, cur, rfl, hb, hg, hn, hc, hsz, ht⟩
  · refine ⟨none, 0, by rw [h0], by omega, Nat.zero_le _, fun i hi => by omega⟩
  · refine ⟨some ⟨g, 0, none⟩, cap, rfl, hn, hc, fun i hi => ⟨g, 0, rfl, (Array.getElem?_eq_some_iff.1 hg).1, fun j hj => ?_⟩⟩
    obtain ⟨tv, htv, hrow⟩ := hr j hj
    have hz : (l.zip tvs)[j]? = some (l[j], tv) := by rw [List.getElem?_zip_eq_some]; exact ⟨List.getElem?_eq_getElem hj, htv⟩
    have hzl : j < (l.zip tvs).length := (List.getElem?_eq_some_iff.1 hz).1
    have hz2 : (l.zip tvs)[j] = (l[j], tv) := (List.getElem?_eq_some_iff.1 hz).2
    have e0 := flatMap_at (fun p : RuleB × Value => [Value.string p.1.1, p.2]) 2 (fun _ => rfl) (l.zip tvs) j 0 hzl (by decide)
    have e1 := flatMap_at (fun p : RuleB × Value => [Value.string p.1.1, p.2]) 2 (fun _ => rfl) (l.zip tvs) j 1 hzl (by decide)
    rw [hz2] at e0 e1
    have c0 := ho.cells (g := g) rfl (j * 2 + 0) (.string l[j].1) e0
    have c1 := ho.cells (g := g) rfl (j * 2 + 1) tv e1
    rw [Addr.add_lit] at c0 c1
    refine ⟨by simpa using c0, tv, by simpa [Nat.add_assoc] using c1, RowP.of_row (row_of_own hrow)⟩
theorem grownBy_set (W : World) (b o : Nat) (v : Value) : W.grownBy (W.setCell ⟨b, o, none⟩ v) (some b) :=
  ⟨rfl, rfl, rfl, by simp, fun k _ hk => Below.heap_setCell _ _ _ k (fun e => hk (by rw [e]))⟩
theorem row_shape {w : World} {base : Nat} {e : TypeId} {size : Nat} {v : Value} {n : Nat} {xs : List Value} (h : w.ownsRow base e size v n xs) : ∃ a cap, v = .slice a n cap := by
  obtain ⟨h1, ⟨rfl, rfl⟩ | ⟨g, cap, cur, h3, _⟩⟩ := h
  · exact ⟨_, _, rfl⟩
  · exact ⟨_, _, h3⟩
theorem RulesOwn.ext {w w' : World} {base : Nat} {v : Value} {l : List RuleB} (h : RulesOwn w base v l) (hb : Below w.heap.size w w') : RulesOwn w' base v l := by
  obtain ⟨tvs, hl, ho, hr⟩ := h
  refine ⟨tvs, hl, owns_below ho hb, fun j hj => ?_⟩
  obtain ⟨tv, htv, hrow⟩ := hr j hj
  exact ⟨tv, htv, owns_below hrow hb⟩
theorem RulesOwn.nil (w : World) (base : Nat) : RulesOwn w base (.slice none 0 0) [] := ⟨[], rfl, World.ownsRow_nil _ _ _ _, fun _ hj => absurd hj (Nat.not_lt_zero _)⟩
/-- Rows of two types lie apart. -/
theorem own_apart {w : World} {base base' : Nat} {e e' : TypeId} {size size' n n' : Nat} {v v' : Value} {xs xs' : List Value} (h : w.ownsRow base e size v n xs) (h' : w.ownsRow base' e' size' v' n' xs') (hne : e ≠ e') :
    v.ownBlock = none ∨ v.ownBlock ≠ v'.ownBlock := by
  rcases h.2 with ⟨rfl, _⟩ | ⟨g, cap, cur, rfl, _, hg, _⟩
  · exact .inl rfl
  · refine .inr fun e1 => ?_
    rcases h'.2 with ⟨rfl, _⟩ | ⟨g', cap', cur', rfl, _, hg', _⟩
    · simp [Value.ownBlock] at e1
    · obtain rfl : g = g' := by simpa [Value.ownBlock] using e1
      rw [hg] at hg'
      injection hg' with h1
      injection h1 with _ h2
      exact hne h2
theorem own_not {w : World} {base : Nat} {e t : TypeId} {size n X : Nat} {v : Value} {xs : List Value} {c : Array Value} {fr : Nat × Nat} (h : w.ownsRow base e size v n xs) (hX : w.heap[X]? = some (.cells c t fr)) (hne : e ≠ t) :
    v.ownBlock = none ∨ v.ownBlock ≠ some X := by
  rcases h.2 with ⟨rfl, _⟩ | ⟨g, cap, cur, rfl, _, hg, _⟩
  · exact .inl rfl
  · refine .inr fun e1 => ?_
    obtain rfl : g = X := by simpa [Value.ownBlock] using e1
    rw [hg] at hX
    injection hX with h1
    injection h1 with _ h2
    exact hne h2
/-- One rule more. -/
theorem RulesOwn.snoc {w w' : World} {base : Nat} {o o' tv : Value} {l : List RuleB} {r : RuleB} {tvs : List Value} (h1 : tvs.length = l.length)
    (h2 : w.ownsRow base 58 2 o l.length ((l.zip tvs).flatMap fun p => [Value.string p.1.1, p.2]))
    (h3 : ∀ j, (hj : j < l.length) → ∃ tv, tvs[j]? = some tv ∧ w.ownsRow base 9 1 tv l[j].2.length (l[j].2.map Value.string))
    (hr : w.ownsRow base 9 1 tv r.2.length (r.2.map Value.string))
    (ho : w'.ownsRow base 58 2 o' (l.length + 1) (((l.zip tvs).flatMap fun p => [Value.string p.1.1, p.2]) ++ [.string r.1, tv])) (hg : w.grownBy w' o.ownBlock) : RulesOwn w' base o' (l ++ [r]) := by
  refine ⟨tvs ++ [tv], by simp [h1], ?_, fun j hj => ?_⟩
  · rw [List.zip_append h1.symm, List.flatMap_append, List.length_append]
    simpa using ho
  · by_cases hlt : j < l.length
    · obtain ⟨tvj, e1, e2⟩ := h3 j hlt
      refine ⟨tvj, by rw [List.getElem?_append_left (by omega)]; exact e1, ?_⟩
      rw [List.getElem_append_left hlt]
      exact e2.kept hg (own_apart e2 h2 (by decide))
    · obtain rfl : j = l.length := by simp at hj; omega
      refine ⟨tv, by rw [← h1]; simp, ?_⟩
      rw [List.getElem_append_right (Nat.le_refl _)]
      simp only [Nat.sub_self, List.getElem_cons_zero]
      exact hr.kept hg (own_apart hr h2 (by decide))
theorem own_mono {w : World} {base base' : Nat} {e : TypeId} {size : Nat} {v : Value} {n : Nat} {xs : List Value} (h : w.ownsRow base e size v n xs) (hb : base' ≤ base) : w.ownsRow base' e size v n xs := by
  obtain ⟨h1, h2 | ⟨g, cap, cur, h3, h4, h5⟩⟩ := h
  · exact ⟨h1, .inl h2⟩
  · exact ⟨h1, .inr ⟨g, cap, cur, h3, Nat.le_trans hb h4, h5⟩⟩
abbrev flatR (l : List RuleB) (tvs : List Value) : List Value := (l.zip tvs).flatMap fun p => [Value.string p.1.1, p.2]
end Go.Proofs.YtcjjbpoaojjojaaGreatDoor
