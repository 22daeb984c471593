/- Plain: rules of mirrors, and the ways to a link. No program in sight. Rules' error, in plain Lean. package mirror: one, Check by their contracts. mirror.Ways by its contract. chandlerylaw2.LongRules, OwnRules by their contracts. -/
import Derived.Test.YtomceddfbfpjjaaGreatDoorKPlainly
import Derived.Test.YtomceddfbfpjjaaGreatDoorKErrors
import Derived.Test.YtomceddfbfpjjaaGreatDoorKRefLinkUp
import Derived.Test.YtomceddfbfpjjaaGreatDoorKRowed
namespace Go.Proofs.YtomceddfbfpjjaaGreatDoor
open Go

/-- A rule: what a link begins with; what is put in its place. -/
abbrev RuleL := List UInt8 × List (List UInt8)
def firstE : List (List UInt8) → Nat
  | [] => 0
  | t :: r => if beginE t = 0 then firstE r else beginE t
def oneE (r : RuleL) : Nat := if beginE r.1 = 0 then (if 8 < r.2.length then 8 else firstE r.2) else beginE r.1
/-- The first rule that is none: where, and its error. -/
def badAt : Nat → List RuleL → Option (Nat × Nat)
  | _, [] => none
  | i, r :: l => if oneE r = 0 then badAt (i + 1) l else some (i, oneE r)
/-- Which rule: the longest with which a link begins, the first of these. -/
def takes (s : List UInt8) (acc : Option RuleL) (r : RuleL) : Bool := Lib.hasPrefix s r.1 && (match acc with | none => true | some q => decide (q.1.length < r.1.length))
def pickR (s : List UInt8) : Option RuleL → List RuleL → Option RuleL
  | acc, [] => acc
  | acc, r :: l => pickR s (if takes s acc r then some r else acc) l
/-- The links that come of one rule, each once. -/
def waysGo (f s : List UInt8) : List (List UInt8) → List (List UInt8) → List (List UInt8)
  | out, [] => out
  | out, t :: r => if swapE f t s = 0 ∧ ¬ (swapT f t s) ∈ out then waysGo f s (out ++ [swapT f t s]) r else waysGo f s out r
def waysR (s : List UInt8) : Option RuleL → List (List UInt8)
  | none => []
  | some r => waysGo r.1 s [] r.2
def waysOut (l : List RuleL) (s : List UInt8) : List (List UInt8) :=
  if s ∈ waysR s (pickR s none l) then waysR s (pickR s none l) else waysR s (pickR s none l) ++ [s]

theorem firstE_le : ∀ l, firstE l ≤ 13
  | [] => by decide
  | t :: r => by rw [firstE]; split; exact firstE_le r; exact beginE_le t
theorem oneE_le (r : RuleL) : oneE r ≤ 13 := by
  unfold oneE
  split
  · split
    · decide
    · exact firstE_le _
  · exact beginE_le _
/-- Every way is a link, if the link is; each is there once. -/
theorem waysGo_ok {f s : List UInt8} : ∀ (ts out : List (List UInt8)), (∀ x ∈ out, linkE x = 0) → out.Nodup → (∀ x ∈ waysGo f s out ts, linkE x = 0) ∧ (waysGo f s out ts).Nodup
  | [], out, h, hn => ⟨h, hn⟩
  | t :: r, out, h, hn => by
    rw [waysGo]
    split
    · rename_i c
      refine waysGo_ok r _ ?_ ?_
      · intro x hx
        rcases List.mem_append.1 hx with hx | hx
        · exact h x hx
        · obtain rfl := List.mem_singleton.1 hx
          exact (swap_back c.1).2.2.1
      · rw [List.nodup_append]
        refine ⟨hn, by simp, ?_⟩
        intro a ha b hb e
        obtain rfl := List.mem_singleton.1 hb
        subst e; exact c.2 ha
    · exact waysGo_ok r out h hn
theorem waysOut_ok {l : List RuleL} {s : List UInt8} (hs : linkE s = 0) : (∀ x ∈ waysOut l s, linkE x = 0) ∧ (waysOut l s).Nodup ∧ s ∈ waysOut l s := by
  have key : (∀ x ∈ waysR s (pickR s none l), linkE x = 0) ∧ (waysR s (pickR s none l)).Nodup := by
    cases pickR s none l with
    | none => exact ⟨(fun x hx => by cases hx), List.nodup_nil⟩
    | some r => exact waysGo_ok r.2 [] (fun x hx => by cases hx) List.nodup_nil
  unfold waysOut
  split
  · rename_i h; exact ⟨key.1, key.2, h⟩
  · rename_i h
    refine ⟨?_, ?_, by simp⟩
    · intro x hx
      rcases List.mem_append.1 hx with hx | hx
      · exact key.1 x hx
      · obtain rfl := List.mem_singleton.1 hx; exact hs
    · rw [List.nodup_append]
      refine ⟨key.2, by simp, ?_⟩
      intro a ha b hb e
      obtain rfl := List.mem_singleton.1 hb
      subst e; exact h ha

theorem takes_no {s : List UInt8} {acc : Option RuleL} {r : RuleL} (h : Lib.hasPrefix s r.1 = false) : takes s acc r = false := by unfold takes; rw [h]; rfl
end Go.Proofs.YtomceddfbfpjjaaGreatDoor

namespace Go.Proofs.YtomceddfbfpjjaaGreatDoor
open Go

/-- Rules' error: a number, and where. -/
def rulesEr (l : List RuleL) : Er := if 10 < l.length then ⟨8, none⟩ else match badAt 0 l with
  | none => ⟨0, none⟩
  | some p => ⟨p.2, some (p.1 : Int)⟩
end Go.Proofs.YtomceddfbfpjjaaGreatDoor

namespace Go.Proofs.YtomceddfbfpjjaaGreatDoor
open Go Go.RowKit

/-- A rule as memory holds it. -/
abbrev RuleB := ByteArray × List ByteArray
def ruleOf (r : RuleB) : RuleL := (bl r.1, r.2.map bl)
/-- The slice value v reads in w as these texts; where there are none, it may have any address. -/
def RowP (w : World) (v : Value) (l : List ByteArray) : Prop :=
  ∃ ao cap, v = .slice ao l.length cap ∧ l.length ≤ cap ∧ cap ≤ maxLen ∧ (ao = none → cap = 0) ∧ (∀ i, i < l.length → ∃ b off, ao = some ⟨b, off, none⟩ ∧ b < w.heap.size ∧ ∀ k, (hk : k < l.length) → w.cell? ⟨b, off + k, none⟩ = some (.string l[k]))
theorem RowP.parts {w : World} {v : Value} {l : List ByteArray} (h : RowP w v l) :
    ∃ ao cap, v = .slice ao l.length cap ∧ l.length ≤ cap ∧ cap ≤ maxLen ∧ (∀ i, (hi : i < l.length) → ∃ b off, ao = some ⟨b, off, none⟩ ∧ b < w.heap.size ∧ ∀ k, (hk : k < l.length) → w.cell? ⟨b, off + k, none⟩ = some (.string l[k])) := by
  obtain ⟨ao, cap, h1, h2, h3, _, h5⟩ := h
  exact ⟨ao, cap, h1, h2, h3, h5⟩
theorem RowP.ext {w w' : World} {v : Value} {l : List ByteArray} (h : RowP w v l) (hb : Below w.heap.size w w') : RowP w' v l := by
  obtain ⟨ao, cap, h1, h2, h3, h4, h5⟩ := h
  refine ⟨ao, cap, h1, h2, h3, h4, fun i hi => ?_⟩
  obtain ⟨b, off, e, hlt, hc⟩ := h5 i hi
  exact ⟨b, off, e, Nat.lt_of_lt_of_le hlt hb.size, fun k hk => (hb.cell (p := ⟨b, off + k, none⟩) hlt).trans (hc k hk)⟩
theorem RowP.of_row {w : World} {v : Value} {l : List ByteArray} (h : Row encStr 1 w v l) : RowP w v l := by
  rcases h.one with ⟨rfl, rfl⟩ | ⟨b, off, cap, rfl, h1, h2, h3, h4⟩
  · exact ⟨none, 0, rfl, Nat.le_refl _, Nat.zero_le _, fun _ => rfl, fun i hi => absurd hi (Nat.not_lt_zero _)⟩
  · exact ⟨some ⟨b, off, none⟩, cap, rfl, h1, h2, (fun h => by cases h), fun i hi => ⟨b, off, rfl, h3, h4⟩⟩
/-- The slice value v reads in w as the rules l. -/
def RulesRow (w : World) (v : Value) (l : List RuleB) : Prop :=
  ∃ ao cap, v = .slice ao l.length cap ∧ l.length ≤ cap ∧ cap ≤ maxLen ∧ ∀ i, i < l.length → ∃ b off, ao = some ⟨b, off, none⟩ ∧ b < w.heap.size ∧
    ∀ j, (hj : j < l.length) → w.cell? ⟨b, off + j * 2, none⟩ = some (.string l[j].1) ∧ ∃ tv, w.cell? ⟨b, off + j * 2 + 1, none⟩ = some tv ∧ RowP w tv l[j].2
theorem RulesRow.ext {w w' : World} {v : Value} {l : List RuleB} (h : RulesRow w v l) (hb : Below w.heap.size w w') : RulesRow w' v l := by
  obtain ⟨ao, cap, h1, h2, h3, h4⟩ := h
  refine ⟨ao, cap, h1, h2, h3, fun i hi => ?_⟩
  obtain ⟨b, off, e, hlt, hc⟩ := h4 i hi
  refine ⟨b, off, e, Nat.lt_of_lt_of_le hlt hb.size, fun j hj => ?_⟩
  obtain ⟨c1, tv, c2, c3⟩ := hc j hj
  exact ⟨(hb.cell (p := ⟨b, off + j * 2, none⟩) hlt).trans c1, tv, (hb.cell (p := ⟨b, off + j * 2 + 1, none⟩) hlt).trans c2, c3.ext hb⟩
/-- Rules that are few and short. -/
def Small (r : RuleB) : Prop := r.1.size ≤ 120 ∧ r.2.length ≤ 10 ∧ ∀ t ∈ r.2, t.size ≤ 120

theorem drop_bl (ts : List ByteArray) (k : Nat) (h : k < ts.length) : (ts.map bl).drop k = bl ts[k] :: (ts.map bl).drop (k + 1) := by
  rw [List.drop_eq_getElem_cons (by rw [List.length_map]; exact h), List.getElem_map]
theorem drop_end (ts : List ByteArray) : (ts.map bl).drop ts.length = [] := List.drop_of_length_le (by rw [List.length_map]; exact Nat.le_refl _)

set_option maxHeartbeats 400000 in
set_option maxRecDepth 100000 in
theorem ruleOne_any {E : Nat → Addr} (f : ByteArray) (tv : Value) (ts : List ByteArray) (w : World) (hs : Small (f, ts)) (hv : RowP w tv ts) (hE : LEnv E w) :
    Calls Tryz.prog 90 #[.agg #[.string f, tv]] w fun e w' => e = .returned (errV E (oneE (ruleOf (f, ts)))) ∧ Below w.heap.size w w' := by
  obtain ⟨hf, hn, ht⟩ := hs
  obtain ⟨ao, cap, rfl, h1, h2, H3⟩ := hv.parts
  have HM := Lib.hid H3
  have HT := Lib.hid ht
  have HE := Lib.hid hE
  clear H3 hv ht hE
  have b0 : Below w.heap.size w (w.alloc (.cells #[.string f, .slice ao ts.length cap] 100)) := (Below.refl _ w).alloc (Nat.le_refl _) _
  have k0 : (w.alloc (.cells #[.string f, .slice ao ts.length cap] 100)).cell? ⟨w.heap.size, 0, none⟩ = some (.string f) := by rw [World.cell?_alloc_at _ _ _ _ rfl]; rfl
  have k1 : (w.alloc (.cells #[.string f, .slice ao ts.length cap] 100)).cell? ⟨w.heap.size, 1, none⟩ = some (.slice ao ts.length cap) := by rw [World.cell?_alloc_at _ _ _ _ rfl]; rfl
  have kb : w.heap.size < (w.alloc (.cells #[.string f, .slice ao ts.length cap] 100)).heap.size := by simp
  go_enter Tryz.func90, Tryz.ntmps90
  go_wp2_with fail
  generalize hW : w.alloc (.cells #[.string f, .slice ao ts.length cap] 100) = W at *
  clear hW
  have C := Lib.hid (linkBegins_any f W (by have : f.size ≤ 120 := hf; omega) (HE.out.ext b0))
  refine C.out.mono ?_
  clear C
  rintro e w1 ⟨rfl, hb⟩
  have b1 := b0.trans (hb.mono b0.size)
  have c1 := (hb.cell (p := ⟨w.heap.size, 1, none⟩) kb).trans k1
  clear hb k0 k1 kb b0
  cases hc : beginE (bl f) with
  | succ c =>
    have HX : Hid (oneE (ruleOf (f, ts)) = c + 1) := by show _ = _; unfold oneE ruleOf; rw [if_neg (by rw [hc]; omega), hc]
    rw [show errV E (c + 1) = sentV E c from rfl]
    clear hc
    go_wp2_with fail
    go_ret
    exact ⟨by rw [HX.out]; rfl, b1⟩
  | zero =>
    rw [show errV E 0 = .nilIface from rfl]
    by_cases h8 : ts.length ≤ 8
    · have HX : Hid (oneE (ruleOf (f, ts)) = firstE (ts.map bl)) := by show _ = _; unfold oneE ruleOf; rw [if_pos hc, if_neg (by simp; omega)]
      clear hc
      go_wp2_with fail
      go_loopw [21] (fun i wr => ∃ k : Nat, k ≤ ts.length ∧ i = .int .i64 k ∧ Hid (firstE (ts.map bl) = firstE ((ts.map bl).drop k)) ∧ Below w1.heap.size w1 wr) (fun i _ => ts.length - (intOf i).toNat)
      case atStart => exact ⟨0, Nat.zero_le _, rfl, rfl, Below.refl _ _⟩
      case round =>
        obtain ⟨k, hk, rfl, HF, hb⟩ := hrel
        have b2 := b1.trans (hb.mono b1.size)
        by_cases hlt : k < ts.length
        · obtain ⟨b, off, rfl, hbl, hcell⟩ := HM.out k hlt
          have cl := (b2.cell (p := ⟨b, off + k, none⟩) hbl).trans (hcell k hlt)
          have sz := HT.out ts[k] (List.getElem_mem hlt)
          have HD := Lib.hid (drop_bl ts k hlt)
          clear hcell
          generalize ts[k] = t at cl sz HD
          have C := Lib.hid (linkBegins_any t wr (by omega) (HE.out.ext b2))
          go_wp2_with fail
          refine C.out.mono ?_
          clear C
          rintro e w3 ⟨rfl, hb3⟩
          cases hc : beginE (bl t) with
          | succ c =>
            have HY : Hid (firstE (ts.map bl) = c + 1) := by show _ = _; rw [HF.out, HD.out, firstE, if_neg (by omega), hc]
            rw [show errV E (c + 1) = sentV E c from rfl]
            clear hc HF HD
            go_wp2_with fail
            go_ret
            exact ⟨by rw [HX.out, HY.out]; rfl, b2.trans (hb3.mono b2.size)⟩
          | zero =>
            have HY : Hid (firstE (ts.map bl) = firstE ((ts.map bl).drop (k + 1))) := by show _ = _; rw [HF.out, HD.out, firstE, if_pos hc]
            rw [show errV E 0 = .nilIface from rfl]
            clear hc HF HD
            go_wp2_with fail
            go_roundw
            case rel => exact ⟨k + 1, by omega, by go_num, HY, hb.trans (hb3.mono hb.size)⟩
            case measure => simp [intOf]; omega
        · obtain rfl : k = ts.length := by omega
          have HY : Hid (firstE (ts.map bl) = 0) := by show _ = _; rw [HF.out, drop_end]; rfl
          go_wp2_with fail
          go_ret
          exact ⟨by rw [HX.out, HY.out]; rfl, b2⟩
    · have HX : Hid (oneE (ruleOf (f, ts)) = 7 + 1) := by show _ = _; unfold oneE ruleOf; rw [if_pos hc, if_pos (by simp; omega)]
      have c2 := (HE.out.ext b1).path.full
      clear hc
      go_wp2_with fail
      go_ret
      exact ⟨by rw [HX.out]; rfl, b1⟩

/-- What mirror.Check hands back. -/
def CheckPost (E : Nat → Addr) (l : List RuleB) (w : World) (e : Ending) (w' : World) : Prop :=
  (∃ ev, e = .returned ev ∧ Hid (IsErr E w' ev (rulesEr (l.map ruleOf)))) ∧ Below w.heap.size w w'

theorem drop_rule (l : List RuleB) (k : Nat) (h : k < l.length) : (l.map ruleOf).drop k = ruleOf l[k] :: (l.map ruleOf).drop (k + 1) := by
  rw [List.drop_eq_getElem_cons (by rw [List.length_map]; exact h), List.getElem_map]
theorem drop_rules (l : List RuleB) : (l.map ruleOf).drop l.length = [] := List.drop_of_length_le (by rw [List.length_map]; exact Nat.le_refl _)

set_option maxHeartbeats 1000000 in
set_option maxRecDepth 100000 in
theorem mirrorCheck_any {E : Nat → Addr} (v : Value) (l : List RuleB) (w : World) (hl : l.length ≤ 1000) (hs : ∀ r ∈ l, Small r) (hv : RulesRow w v l) (hE : LEnv E w) :
    Calls Tryz.prog 64 #[v] w (CheckPost E l w) := by
  have HR := Lib.hid hv
  obtain ⟨ao, cap, rfl, h1, h2, H3⟩ := hv
  have HM := Lib.hid H3
  have HS := Lib.hid hs
  have HE := Lib.hid hE
  clear H3 hs hE
  go_enter Tryz.func64, Tryz.ntmps64
  by_cases h10 : l.length ≤ 10
  · have HX : Hid (rulesEr (l.map ruleOf) = match badAt 0 (l.map ruleOf) with
        | none => ⟨0, none⟩
        | some p => ⟨p.2, some (p.1 : Int)⟩) := by show _ = _; unfold rulesEr; rw [if_neg (by rw [List.length_map]; omega)]; first | done | (cases badAt 0 (l.map ruleOf) <;> rfl)
    go_wp2_with fail
    go_loopw [12] (fun i wr => ∃ k : Nat, k ≤ l.length ∧ i = .int .i64 k ∧ Hid (badAt 0 (l.map ruleOf) = badAt k ((l.map ruleOf).drop k)) ∧ Below w.heap.size w wr) (fun i _ => l.length - (intOf i).toNat)
    case atStart => exact ⟨0, Nat.zero_le _, rfl, rfl, Below.refl _ _⟩
    case round =>
      obtain ⟨k, hk, rfl, HF, hb⟩ := hrel
      by_cases hlt : k < l.length
      · obtain ⟨b, off, rfl, hbl, hcell⟩ := HM.out k hlt
        obtain ⟨d1, tv, d2, d3⟩ := hcell k hlt
        have cl1 := (hb.cell (p := ⟨b, off + k * 2, none⟩) hbl).trans d1
        have cl2 := (hb.cell (p := ⟨b, off + k * 2 + 1, none⟩) hbl).trans d2
        have HT := Lib.hid (d3.ext hb)
        have HZ := Lib.hid (HS.out l[k] (List.getElem_mem hlt))
        have HD := Lib.hid (drop_rule l k hlt)
        clear hcell d1 d2 d3
        generalize l[k] = r at cl1 HT HZ HD
        obtain ⟨f, ts⟩ := r
        obtain ⟨ao2, cap2, rfl, _⟩ := id HT.out
        simp only at cl1
        have C := Lib.hid (fun W (hb2 : Below wr.heap.size wr W) => ruleOne_any f _ ts W HZ.out (HT.out.ext hb2) (HE.out.ext (hb.trans (hb2.mono hb.size))))
        go_wp2_with fail
        refine (C.out _ ((Below.refl _ wr).alloc (Nat.le_refl _) _)).mono ?_
        clear C
        rintro e w3 ⟨rfl, hb3⟩
        have b3 := hb.trans ((((Below.refl wr.heap.size wr).alloc (Nat.le_refl _) (.cells #[.string f, .slice ao2 ts.length cap2] 100)).trans (hb3.mono (by simp))).mono hb.size)
        have hle := oneE_le (ruleOf (f, ts))
        obtain ⟨c, hc⟩ : ∃ c, oneE (ruleOf (f, ts)) = c := ⟨_, rfl⟩
        rw [hc] at hle ⊢
        cases c with
        | succ c =>
          have HY : Hid (rulesEr (l.map ruleOf) = ⟨c + 1, some (k : Int)⟩) := by
            show _ = _
            rw [HX.out, HF.out, HD.out, badAt, if_neg (by rw [hc]; omega), hc]
          rw [show errV E (c + 1) = sentV E c from rfl]
          clear hc HF HD
          go_wp2_with fail
          go_ret
          refine ⟨⟨_, rfl, ?_⟩, b3.alloc b3.size _⟩
          show IsErr _ _ _ _
          rw [HY.out]
          exact IsErr.fault E _ c (by omega) _ _ (by rw [World.cell?_alloc_at _ _ _ _ rfl]; rfl) (by rw [World.cell?_alloc_at _ _ _ _ rfl]; rfl)
        | zero =>
          have HY : Hid (badAt 0 (l.map ruleOf) = badAt (k + 1) ((l.map ruleOf).drop (k + 1))) := by
            show _ = _
            rw [HF.out, HD.out, badAt, if_pos hc]
          rw [show errV E 0 = .nilIface from rfl]
          clear hc HF HD
          go_wp2_with fail
          go_roundw
          case rel => exact ⟨k + 1, by omega, by go_num, HY, b3⟩
          case measure => simp [intOf]; omega
      · obtain rfl : k = l.length := by omega
        have HY : Hid (rulesEr (l.map ruleOf) = ⟨0, none⟩) := by show _ = _; rw [HX.out, HF.out, drop_rules]; rfl
        go_wp2_with fail
        go_ret
        exact ⟨⟨_, rfl, by show IsErr _ _ _ _; rw [HY.out]; exact IsErr.nil E _⟩, hb⟩
  · have HX : Hid (rulesEr (l.map ruleOf) = ⟨7 + 1, none⟩) := by show _ = _; unfold rulesEr; rw [if_pos (by rw [List.length_map]; omega)]
    have c2 := HE.out.path.full
    go_wp2_with fail
    go_ret
    exact ⟨⟨_, rfl, by show IsErr _ _ _ _; rw [HX.out]; exact IsErr.base E _ 7 (by decide)⟩, Below.refl _ _⟩
end Go.Proofs.YtomceddfbfpjjaaGreatDoor

namespace Go.Proofs.YtomceddfbfpjjaaGreatDoor
open Go Go.RowKit

theorem has_bl (zs : List ByteArray) (x : ByteArray) : Lib.containsS zs x = (zs.map bl).contains (bl x) := by
  rw [Bool.eq_iff_iff, Lib.containsS_iff, List.contains_iff_mem]
  constructor
  · intro h; exact List.mem_map.2 ⟨x, h, rfl⟩
  · intro h
    obtain ⟨z, hz, e⟩ := List.mem_map.1 h
    rw [← blInj e]; exact hz
/-- slices.Contains of a row of texts. -/
theorem contains_any {w : World} {v : Value} {zs : List ByteArray} (hv : Row encStr 1 w v zs) (hn : zs.length ≤ 1000000) (x : ByteArray) :
    Calls Tryz.prog 68 #[v, .string x] w fun e w' => e = .returned (.bool ((zs.map bl).contains (bl x))) ∧ w' = w := by
  rcases hv.one with ⟨rfl, rfl⟩ | ⟨b, off, cap, rfl, h1, h2, h3, h4⟩
  · exact Tryz.slices_Contains_string_empty none 0 x w
  · refine (Tryz.slices_Contains_string b off zs.length cap zs x w (Nat.le_refl _) (by omega) ?_).mono ?_
    · intro j hj
      rw [h4 j hj]
      simp [List.getD, List.getElem?_eq_getElem hj]
    · rintro e w' ⟨rfl, rfl⟩
      rw [List.take_of_length_le (Nat.le_refl _), has_bl]
      exact ⟨rfl, rfl⟩

/-- The error of Ways: the rules', or the link's. -/
def waysEr (l : List RuleL) (s : List UInt8) : Er := if (rulesEr l).code = 0 then ⟨linkE s, none⟩ else rulesEr l
/-- What mirror.Ways hands back. -/
def WaysPost (E : Nat → Addr) (l : List RuleB) (s : ByteArray) (w : World) (e : Ending) (w' : World) : Prop :=
  (∃ ov ev xs, e = .returned (.tuple #[ov, ev]) ∧ Hid (IsErr E w' ev (waysEr (l.map ruleOf) (bl s))) ∧ Hid (Row encStr 1 w' ov xs) ∧
    Hid (xs.map bl = if (waysEr (l.map ruleOf) (bl s)).code = 0 then waysOut (l.map ruleOf) (bl s) else []) ∧ xs.length ≤ 20) ∧ Below w.heap.size w w'
theorem WaysPost.bad {E : Nat → Addr} {l : List RuleB} {s : ByteArray} {w w' : World} {ev : Value} (h : Hid (IsErr E w' ev (waysEr (l.map ruleOf) (bl s)))) (h0 : (waysEr (l.map ruleOf) (bl s)).code ≠ 0) (hb : Below w.heap.size w w') :
    WaysPost E l s w (.returned (.tuple #[.slice none 0 0, ev])) w' :=
  ⟨⟨_, ev, [], rfl, h, Row.nil _ _ _, by show _ = _; rw [if_neg h0]; rfl, Nat.zero_le _⟩, hb⟩

/-- How the index of the longest rule so far stands for the rule. -/
def KeyAt (l : List RuleB) (i : Nat) (kv : Value) (acc : Option RuleL) : Prop :=
  (kv = .int .i64 (-1) ∧ acc = none) ∨ ∃ k : Nat, k < i ∧ kv = .int .i64 k ∧ ∃ h : k < l.length, acc = some (ruleOf l[k])

theorem Tryz.infoW : (Tryz.prog.info? 9).map (fun i => (i.zero, i.size, i.bytes)) = some (some (.string ⟨#[]⟩), 1, 16) := by kernel_rfl
theorem flatStr (l : List ByteArray) : l.flatMap encStr = l.map Value.string := by
  induction l with
  | nil => rfl
  | cons x l ih => rw [List.flatMap_cons, ih]; rfl
theorem row_of_own {w : World} {base : Nat} {v : Value} {xs : List ByteArray} (h : w.ownsRow base 9 1 v xs.length (xs.map Value.string)) : Row encStr 1 w v xs :=
  Row.of_owns (enc := encStr) (base := base) (e := 9) (fun _ => rfl) (by rw [flatStr]; exact h)

set_option maxHeartbeats 4000000 in
set_option maxRecDepth 100000 in
theorem ways_any {E : Nat → Addr} (v : Value) (l : List RuleB) (s : ByteArray) (w : World) (hl : l.length ≤ 1000) (hs : ∀ r ∈ l, Small r) (hss : s.size ≤ 120) (hv : RulesRow w v l) (hE : LEnv E w) :
    Calls Tryz.prog 39 #[v, .string s] w (WaysPost E l s w) := by
  obtain ⟨i0, hi0, hz0, hz1, hz2⟩ := info_parts Tryz.infoW
  have C := Lib.hid (mirrorCheck_any v l w hl hs hv hE)
  obtain ⟨ao, cap, rfl, h1, h2, H3⟩ := hv
  have HM := Lib.hid H3
  have HS := Lib.hid hs
  have HE := Lib.hid hE
  clear H3 hs hE
  go_enter Tryz.func39, Tryz.ntmps39
  go_wp2_with fail
  refine C.out.mono ?_
  clear C
  intro e w1 hpost
  unfold CheckPost at hpost
  obtain ⟨⟨ev, rfl, HV⟩, b1⟩ := hpost
  by_cases h0 : (rulesEr (l.map ruleOf)).code = 0
  · have hev : ev = .nilIface := by
      have h := HV.out
      generalize rulesEr (l.map ruleOf) = er at h h0
      obtain ⟨c, a⟩ := er
      simp only at h0
      subst h0
      exact h.nil_inv
    subst hev
    have HW : Hid (waysEr (l.map ruleOf) (bl s) = ⟨linkE (bl s), none⟩) := by show _ = _; unfold waysEr; rw [if_pos h0]
    clear HV h0
    have C := Lib.hid (linkCheck_any s w1 (by omega) (HE.out.ext b1))
    go_wp2_with fail
    refine C.out.mono ?_
    clear C
    rintro e w2 ⟨rfl, hb⟩
    have b2 := b1.trans (hb.mono b1.size)
    clear hb b1
    have hle := linkE_le (bl s)
    obtain ⟨c, hc⟩ : ∃ c, linkE (bl s) = c := ⟨_, rfl⟩
    rw [hc] at hle ⊢
    cases c with
    | succ c =>
      rw [show errV E (c + 1) = sentV E c from rfl]
      have HX : Hid (waysEr (l.map ruleOf) (bl s) = ⟨c + 1, none⟩) := by show _ = _; rw [HW.out, hc]
      clear hc
      go_wp2_with fail
      go_ret2
      exact WaysPost.bad (by show IsErr _ _ _ _; rw [HX.out]; exact IsErr.base E _ c (by omega)) (by rw [HX.out]; simp) b2
    | zero =>
      rw [show errV E 0 = .nilIface from rfl]
      have HX : Hid (waysEr (l.map ruleOf) (bl s) = ⟨0, none⟩) := by show _ = _; rw [HW.out, hc]
      clear hc HW hle
      go_wp2_with fail
      go_loopw [8, 28] (fun kv i wr => ∃ (k : Nat) (acc : Option RuleL), k ≤ l.length ∧ i = .int .i64 k ∧ KeyAt l k kv acc ∧ Hid (pickR (bl s) none (l.map ruleOf) = pickR (bl s) acc ((l.map ruleOf).drop k)) ∧ Below w.heap.size w wr) (fun _ i _ => l.length - (intOf i).toNat)
      case atStart => exact ⟨0, none, Nat.zero_le _, rfl, .inl ⟨rfl, rfl⟩, rfl, b2⟩
      case round =>
        obtain ⟨k, acc, hk, rfl, hkey, HF, hb⟩ := hrel
        by_cases hlt : k < l.length
        · obtain ⟨b, off, rfl, hbl, hcell⟩ := HM.out k hlt
          obtain ⟨d1, tv, d2, d3⟩ := hcell k hlt
          have cl1 := (hb.cell (p := ⟨b, off + k * 2, none⟩) hbl).trans d1
          have cl2 := (hb.cell (p := ⟨b, off + k * 2 + 1, none⟩) hbl).trans d2
          have HD := Lib.hid (drop_rule l k hlt)
          have HT := Lib.hid (d3.ext hb)
          obtain ⟨r, hr⟩ : ∃ r, l[k] = r := ⟨_, rfl⟩
          rw [hr] at cl1 HT HD
          have HRR := Lib.hid hr
          have HZ := Lib.hid (HS.out r (by rw [← hr]; exact List.getElem_mem hlt))
          clear d1 d2 d3 hr
          obtain ⟨f, ts⟩ := r
          simp only at cl1
          obtain ⟨ao2, cap2, rfl, _⟩ := id HT.out
          have hfz : f.size ≤ 120 := HZ.out.1
          have bk := (Below.refl wr.heap.size wr).alloc (Nat.le_refl _) (.cells #[.string f, .slice ao2 ts.length cap2] 100)
          have hb2 : ∀ n, Below w.heap.size w ((wr.alloc (.cells #[.string f, .slice ao2 ts.length cap2] 100)).drewN n) := fun n => hb.trans ((bk.trans (below_drewN _ _ n)).mono hb.size)
          have HB2 := Lib.hid hb2
          clear hb2 bk
          by_cases hp : Lib.hasPrefix (bl s) (bl f) = true
          · have HH := Lib.hid (fun W => show Calls Tryz.prog 66 #[.string s, .string f] W (fun e w' => e = .returned (.bool true) ∧ w' = W) from (Tryz.strings_HasPrefix s f W).mono (by rintro e w' ⟨rfl, rfl⟩; exact ⟨by rw [show Lib.hasPrefix s.data.toList f.data.toList = true from hp], rfl⟩))
            rcases hkey with ⟨rfl, rfl⟩ | ⟨kk, hkk, rfl, hkl, rfl⟩
            · have HY : Hid (pickR (bl s) none (l.map ruleOf) = pickR (bl s) (some (ruleOf (f, ts))) ((l.map ruleOf).drop (k + 1))) := by
                show _ = _
                rw [HF.out, HD.out, pickR, if_pos (by unfold takes ruleOf; rw [hp]; rfl)]
              have q1 : ((-1 : Int) < 0) := by decide
              clear hp HF HD
              go_wp2_with fail
              go_quiet (exact Calls.quiet_of_same (HH.out _))
              go_wp2_with fail
              go_roundw
              case rel => exact ⟨k + 1, _, by omega, by go_num, .inr ⟨k, by omega, rfl, hlt, by rw [HRR.out]⟩, HY, HB2.out _⟩
              case measure => simp [intOf]; omega
            · obtain ⟨e1, tv2, e2, e3⟩ := hcell kk hkl
              have cl3 := (hb.cell (p := ⟨b, off + kk * 2, none⟩) hbl).trans e1
              clear e1 e2 e3 hcell
              have HQ : Hid ((ruleOf l[kk]).1.length = l[kk].1.size) := bl_length _
              have HKK := Lib.hid (show ∃ h : kk < l.length, some (ruleOf l[kk]) = some (ruleOf l[kk]) from ⟨hkl, rfl⟩)
              obtain ⟨g, hg⟩ : ∃ g, l[kk].1 = g := ⟨_, rfl⟩
              rw [hg] at cl3 HQ
              have hgz : g.size ≤ 120 := by rw [← hg]; exact (HS.out _ (List.getElem_mem hkl)).1
              clear hg
              have cl4 : (wr.alloc (.cells #[.string f, .slice ao2 ts.length cap2] 100)).cell? ⟨b, off + kk * 2, none⟩ = some (.string g) := by
                rw [World.cell?_alloc_lt _ _ _ (Nat.lt_of_lt_of_le hbl hb.size)]; exact cl3
              have q0 : decide ((kk : Int) < 0) = false := decide_eq_false (by omega)
              have q0' : ((kk : Int) < 0) = False := eq_false (by omega)
              by_cases hlen : g.size < f.size
              · have HY : Hid (pickR (bl s) none (l.map ruleOf) = pickR (bl s) (some (ruleOf (f, ts))) ((l.map ruleOf).drop (k + 1))) := by
                  show _ = _
                  rw [HF.out, HD.out, pickR, if_pos]
                  unfold takes
                  rw [show (ruleOf (f, ts)).1 = bl f from rfl, hp]
                  simp only [Bool.true_and, decide_eq_true_eq]
                  rw [HQ.out, bl_length]; exact hlen
                clear hp HF HD HQ
                go_wp2_with fail
                go_quiet (exact Calls.quiet_of_same (HH.out _))
                go_wp2_with fail
                go_roundw
                case rel => exact ⟨k + 1, _, by omega, by go_num, .inr ⟨k, by omega, rfl, hlt, by rw [HRR.out]⟩, HY, HB2.out _⟩
                case measure => simp [intOf]; omega
              · have HY : Hid (pickR (bl s) none (l.map ruleOf) = pickR (bl s) (some (ruleOf l[kk])) ((l.map ruleOf).drop (k + 1))) := by
                  show _ = _
                  rw [HF.out, HD.out, pickR, if_neg]
                  unfold takes
                  rw [show (ruleOf (f, ts)).1 = bl f from rfl, hp]
                  simp only [Bool.true_and, decide_eq_true_eq]
                  rw [HQ.out, bl_length]; exact hlen
                clear hp HF HD HQ
                go_wp2_with fail
                go_quiet (exact Calls.quiet_of_same (HH.out _))
                go_wp2_with fail
                go_roundw
                case rel => exact ⟨k + 1, _, by omega, by go_num, .inr ⟨kk, by omega, rfl, hkl, rfl⟩, HY, HB2.out _⟩
                case measure => simp [intOf]; omega
          · have hp2 : Lib.hasPrefix (bl s) (bl f) = false := by simpa using hp
            have HH := Lib.hid (fun W => show Calls Tryz.prog 66 #[.string s, .string f] W (fun e w' => e = .returned (.bool false) ∧ w' = W) from (Tryz.strings_HasPrefix s f W).mono (by rintro e w' ⟨rfl, rfl⟩; exact ⟨by rw [show Lib.hasPrefix s.data.toList f.data.toList = false from hp2], rfl⟩))
            have HY : Hid (pickR (bl s) none (l.map ruleOf) = pickR (bl s) acc ((l.map ruleOf).drop (k + 1))) := by
              show _ = _
              rw [HF.out, HD.out, pickR, if_neg (by rw [takes_no (r := ruleOf (f, ts)) hp2]; decide)]
            have HK2 : Hid (KeyAt l (k + 1) u8 acc) := by
              rcases hkey with h | ⟨kk, h1, h2⟩
              · exact .inl h
              · exact .inr ⟨kk, by omega, h2⟩
            have hkv : ∃ n : Int, u8 = .int .i64 n := by
              rcases hkey with ⟨rfl, _⟩ | ⟨kk, _, rfl, _⟩
              · exact ⟨_, rfl⟩
              · exact ⟨_, rfl⟩
            obtain ⟨n, rfl⟩ := hkv
            clear hp hp2 HF HD hkey
            go_wp2_with fail
            go_quiet (exact Calls.quiet_of_same (HH.out _))
            go_wp2_with fail
            go_roundw
            case rel => exact ⟨k + 1, acc, by omega, by go_num, HK2.out, HY, HB2.out _⟩
            case measure => simp [intOf]; omega
        · obtain rfl : k = l.length := by omega
          have HPK : Hid (pickR (bl s) none (l.map ruleOf) = acc) := by show _ = _; rw [HF.out, drop_rules]; rfl
          clear HF
          rcases hkey with ⟨rfl, rfl⟩ | ⟨kk, hkk, rfl, hkl, rfl⟩
          · have hr : wr.ownsRow w.heap.size 9 1 (.slice none 0 0) ([] : List ByteArray).length (([] : List ByteArray).map Value.string) := World.ownsRow_nil _ _ _ _
            have HP : Hid (([] : List ByteArray).map bl = waysR (bl s) (pickR (bl s) none (l.map ruleOf))) := by show _ = _; rw [HPK.out]; rfl
            obtain ⟨xs, hxs⟩ : ∃ xs : List ByteArray, xs = [] := ⟨_, rfl⟩
            rw [← hxs] at hr HP
            have hx0 : xs.length ≤ 3 := by rw [hxs]; decide
            clear hxs
            have C := Lib.hid (contains_any (row_of_own hr) (by omega) s)
            go_wp2_with fail
            refine C.out.mono ?_
            clear C
            rintro e w5 ⟨rfl, rfl⟩
            cases hc : (xs.map bl).contains (bl s) with
            | true =>
              have HO : Hid (xs.map bl = waysOut (l.map ruleOf) (bl s)) := by show _ = _; unfold waysOut; rw [← HP.out, if_pos (List.contains_iff_mem.1 hc)]
              clear hc
              go_wp2_with fail
              go_ret2
              exact ⟨⟨_, _, _, rfl, by show IsErr _ _ _ _; rw [HX.out]; exact IsErr.nil E _, row_of_own hr, by show _ = _; rw [HX.out, if_pos rfl]; exact HO.out, by omega⟩, hb⟩
            | false =>
              have HO : Hid ((xs ++ [s]).map bl = waysOut (l.map ruleOf) (bl s)) := by
                show _ = _
                unfold waysOut
                rw [← HP.out, if_neg (by intro h; rw [List.contains_iff_mem.2 h] at hc; cases hc), List.map_append]; rfl
              clear hc
              go_wp2_with (at_builtin; refine wpList_append_own _ rfl _ _ 35 rfl w.heap.size 9 i0 (.string ⟨#[]⟩) 1 16 Tryz.underlying35 hi0 hz0 hz1 hz2 rfl (by decide) _ _ _ rfl (World.ownsRow.alloc hr _) ⟨w5.heap.size, 0, none⟩ 1 1 [.string s] rfl rfl ?c1 ?c2 ?c3 ?c4 ?c5 ?_)
              case c1 =>
                intro j u hj
                match j, hj with
                | 0, hj => simp at hj; subst hj; simp [Addr.add]
              case c2 => intro u hu; simp at hu; subst hu; rfl
              case c3 => rw [maxLen_eq]; omega
              case c4 => omega
              case c5 => have := hb.size; simp; omega
              intro v6 w6 hown6 hgrow6 _
              have hb7 : Below w.heap.size w w6 := (hb.alloc hb.size _).grown hgrow6 (by have := hb.size; simp; omega) (fun r e => (World.ownsRow.lt hr r e).1)
              have hr6 : w6.ownsRow w.heap.size 9 1 v6 (xs ++ [s]).length ((xs ++ [s]).map Value.string) := by rw [List.length_append, List.map_append]; exact hown6
              clear hown6 hgrow6
              go_wp2_with fail
              go_ret2
              exact ⟨⟨_, _, _, rfl, by show IsErr _ _ _ _; rw [HX.out]; exact IsErr.nil E _, row_of_own hr6, by show _ = _; rw [HX.out, if_pos rfl]; exact HO.out, by simp; omega⟩, hb7⟩
          · obtain ⟨b, off, rfl, hbl, hcell⟩ := HM.out kk hkl
            obtain ⟨d1, tv, d2, d3⟩ := hcell kk hkl
            obtain ⟨r, hr⟩ : ∃ r, l[kk] = r := ⟨_, rfl⟩
            rw [hr] at d1 d3 HPK
            have HZ := Lib.hid (HS.out r (by rw [← hr]; exact List.getElem_mem hkl))
            clear hcell hr
            obtain ⟨f, ts⟩ := r
            obtain ⟨ao2, cap2, rfl, g1, g2, G3⟩ := d3.parts
            have HG := Lib.hid G3
            clear G3 d3
            simp only at d1 d2 HG
            have hfz : f.size ≤ 120 := HZ.out.1
            have htz : ts.length ≤ 10 := HZ.out.2.1
            have HTZ : Hid (∀ t ∈ ts, t.size ≤ 120) := HZ.out.2.2
            have cl1 := (hb.cell (p := ⟨b, off + kk * 2, none⟩) hbl).trans d1
            have cl2 := (hb.cell (p := ⟨b, off + kk * 2 + 1, none⟩) hbl).trans d2
            have hge : decide ((0 : Int) ≤ (kk : Int)) = true := decide_eq_true (by omega)
            clear HZ
            go_wp2_with fail
            clear cl1 cl2
            go_loopw [11, 63] (fun o i w3 => ∃ (m : Nat) (xs : List ByteArray), m ≤ ts.length ∧ i = .int .i64 m ∧ xs.length ≤ m ∧ w3.ownsRow w.heap.size 9 1 o xs.length (xs.map Value.string) ∧
              Hid (waysGo (bl f) (bl s) [] (ts.map bl) = waysGo (bl f) (bl s) (xs.map bl) ((ts.map bl).drop m)) ∧ Below w.heap.size w w3) (fun _ i _ => ts.length - (intOf i).toNat)
            case atStart => exact ⟨0, [], Nat.zero_le _, rfl, Nat.le_refl _, World.ownsRow_nil _ _ _ _, rfl, hb⟩
            case round =>
              obtain ⟨m, xs, hm, rfl, hxm, hr, HW, hb3⟩ := hrel
              by_cases hmt : m < ts.length
              · obtain ⟨b2, off2, rfl, hbl2, hcell2⟩ := HG.out m hmt
                have cl1 := (hb3.cell (p := ⟨b, off + kk * 2, none⟩) hbl).trans d1
                have cl4 := (hb3.cell (p := ⟨b2, off2 + m, none⟩) hbl2).trans (hcell2 m hmt)
                have sz := HTZ.out ts[m] (List.getElem_mem hmt)
                have HD := Lib.hid (drop_bl ts m hmt)
                clear hcell2
                generalize ts[m] = t at cl4 sz HD
                have C := Lib.hid (swap_any f t s wr (by omega) (by omega) (by omega) (HE.out.ext hb3))
                go_wp2_with fail
                refine C.out.mono ?_
                clear C
                rintro e w4 ⟨⟨x, rfl, HX2⟩, hb4⟩
                have hb5 := hb3.trans (hb4.mono hb3.size)
                have hr4 := owns_below hr hb4
                clear hr hb4 cl1 cl4
                cases hc : swapE (bl f) (bl t) (bl s) with
                | succ c =>
                  have HW2 : Hid (waysGo (bl f) (bl s) [] (ts.map bl) = waysGo (bl f) (bl s) (xs.map bl) ((ts.map bl).drop (m + 1))) := by
                    show _ = _
                    rw [HW.out, HD.out, waysGo, if_neg (by rintro ⟨h, _⟩; rw [hc] at h; cases h)]
                  rw [show errV E (c + 1) = sentV E c from rfl]
                  clear hc HW HD
                  go_wp2_with fail
                  go_roundw
                  case rel => exact ⟨m + 1, xs, by omega, by go_num, by omega, hr4, HW2, hb5⟩
                  case measure => simp [intOf]; omega
                | zero =>
                  rw [show errV E 0 = .nilIface from rfl]
                  have C := Lib.hid (contains_any (row_of_own hr4) (by omega) x)
                  have HC0 := Lib.hid hc
                  clear hc
                  go_wp2_with fail
                  refine C.out.mono ?_
                  clear C
                  rintro e w5 ⟨rfl, rfl⟩
                  cases hc : (xs.map bl).contains (bl x) with
                  | true =>
                    have HW2 : Hid (waysGo (bl f) (bl s) [] (ts.map bl) = waysGo (bl f) (bl s) (xs.map bl) ((ts.map bl).drop (m + 1))) := by
                      show _ = _
                      rw [HW.out, HD.out, waysGo, if_neg (by rintro ⟨_, h⟩; exact h (by rw [← HX2.out]; exact List.contains_iff_mem.1 hc))]
                    clear hc HW HD
                    go_wp2_with fail
                    go_roundw
                    case rel => exact ⟨m + 1, xs, by omega, by go_num, by omega, hr4, HW2, hb5⟩
                    case measure => simp [intOf]; omega
                  | false =>
                    have HW2 : Hid (waysGo (bl f) (bl s) [] (ts.map bl) = waysGo (bl f) (bl s) ((xs ++ [x]).map bl) ((ts.map bl).drop (m + 1))) := by
                      show _ = _
                      rw [HW.out, HD.out, waysGo, if_pos ⟨HC0.out, by rw [← HX2.out]; intro h; rw [List.contains_iff_mem.2 h] at hc; cases hc⟩, List.map_append, ← HX2.out]; rfl
                    clear hc HW HD
                    go_wp2_with (at_builtin; refine wpList_append_own _ rfl _ _ 35 rfl w.heap.size 9 i0 (.string ⟨#[]⟩) 1 16 Tryz.underlying35 hi0 hz0 hz1 hz2 rfl (by decide) _ _ _ rfl (World.ownsRow.alloc hr4 _) ⟨w5.heap.size, 0, none⟩ 1 1 [.string x] rfl rfl ?c1 ?c2 ?c3 ?c4 ?c5 ?_)
                    case c1 =>
                      intro j u hj
                      match j, hj with
                      | 0, hj => simp at hj; subst hj; simp [Addr.add]
                    case c2 => intro u hu; simp at hu; subst hu; rfl
                    case c3 => rw [maxLen_eq]; omega
                    case c4 => omega
                    case c5 => have := hb5.size; simp; omega
                    intro v6 w6 hown6 hgrow6 _
                    have hb7 : Below w.heap.size w w6 := (hb5.alloc hb5.size _).grown hgrow6 (by have := hb5.size; simp; omega) (fun r e => (World.ownsRow.lt hr4 r e).1)
                    have hr6 : w6.ownsRow w.heap.size 9 1 v6 (xs ++ [x]).length ((xs ++ [x]).map Value.string) := by rw [List.length_append, List.map_append]; exact hown6
                    clear hown6 hgrow6
                    go_wp2_with fail
                    go_roundw
                    case rel => exact ⟨m + 1, xs ++ [x], by omega, by go_num, by simp; omega, hr6, HW2, hb7⟩
                    case measure => simp [intOf]; omega
              · obtain rfl : m = ts.length := by omega
                have HP : Hid (xs.map bl = waysR (bl s) (pickR (bl s) none (l.map ruleOf))) := by
                  show _ = _
                  have h := HW.out
                  rw [drop_end] at h
                  rw [HPK.out]
                  exact h.symm
                have hx10 : xs.length ≤ 10 := by omega
                clear HW
                have C := Lib.hid (contains_any (row_of_own hr) (by omega) s)
                go_wp2_with fail
                refine C.out.mono ?_
                clear C
                rintro e w5 ⟨rfl, rfl⟩
                cases hc : (xs.map bl).contains (bl s) with
                | true =>
                  have HO : Hid (xs.map bl = waysOut (l.map ruleOf) (bl s)) := by show _ = _; unfold waysOut; rw [← HP.out, if_pos (List.contains_iff_mem.1 hc)]
                  clear hc
                  go_wp2_with fail
                  go_ret2
                  exact ⟨⟨_, _, _, rfl, by show IsErr _ _ _ _; rw [HX.out]; exact IsErr.nil E _, row_of_own hr, by show _ = _; rw [HX.out, if_pos rfl]; exact HO.out, by omega⟩, hb3⟩
                | false =>
                  have HO : Hid ((xs ++ [s]).map bl = waysOut (l.map ruleOf) (bl s)) := by
                    show _ = _
                    unfold waysOut
                    rw [← HP.out, if_neg (by intro h; rw [List.contains_iff_mem.2 h] at hc; cases hc), List.map_append]; rfl
                  clear hc
                  go_wp2_with (at_builtin; refine wpList_append_own _ rfl _ _ 35 rfl w.heap.size 9 i0 (.string ⟨#[]⟩) 1 16 Tryz.underlying35 hi0 hz0 hz1 hz2 rfl (by decide) _ _ _ rfl (World.ownsRow.alloc hr _) ⟨w5.heap.size, 0, none⟩ 1 1 [.string s] rfl rfl ?c1 ?c2 ?c3 ?c4 ?c5 ?_)
                  case c1 =>
                    intro j u hj
                    match j, hj with
                    | 0, hj => simp at hj; subst hj; simp [Addr.add]
                  case c2 => intro u hu; simp at hu; subst hu; rfl
                  case c3 => rw [maxLen_eq]; omega
                  case c4 => omega
                  case c5 => have := hb3.size; simp; omega
                  intro v6 w6 hown6 hgrow6 _
                  have hb7 : Below w.heap.size w w6 := (hb3.alloc hb3.size _).grown hgrow6 (by have := hb3.size; simp; omega) (fun r e => (World.ownsRow.lt hr r e).1)
                  have hr6 : w6.ownsRow w.heap.size 9 1 v6 (xs ++ [s]).length ((xs ++ [s]).map Value.string) := by rw [List.length_append, List.map_append]; exact hown6
                  clear hown6 hgrow6
                  go_wp2_with fail
                  go_ret2
                  exact ⟨⟨_, _, _, rfl, by show IsErr _ _ _ _; rw [HX.out]; exact IsErr.nil E _, row_of_own hr6, by show _ = _; rw [HX.out, if_pos rfl]; exact HO.out, by simp; omega⟩, hb7⟩
  · have HX : Hid (waysEr (l.map ruleOf) (bl s) = rulesEr (l.map ruleOf)) := by show _ = _; unfold waysEr; rw [if_neg h0]
    obtain ⟨t, x, hx⟩ := HV.out.some_inv h0
    have HN := Lib.hid h0
    clear h0
    subst hx
    go_wp2_with fail
    go_ret2
    exact WaysPost.bad (by show IsErr _ _ _ _; rw [HX.out]; exact HV.out) (by rw [HX.out]; exact HN.out) b1
end Go.Proofs.YtomceddfbfpjjaaGreatDoor

namespace Go.Proofs.YtomceddfbfpjjaaGreatDoor
open Go Go.RowKit

/-- What LongRules says: 0 for rules that are few and short. -/
def LongPost (l : List RuleB) (w : World) (e : Ending) (w' : World) : Prop := (∃ n : Int, e = .returned (.int .i64 n) ∧ (n = 0 ∨ n = 1) ∧ Hid (n = 0 → l.length ≤ 12 ∧ ∀ r ∈ l, Small r)) ∧ w = w'

set_option maxHeartbeats 1000000 in
set_option maxRecDepth 100000 in
theorem longRules_any (v : Value) (l : List RuleB) (w : World) (hv : RulesRow w v l) :
    Calls Tryz.prog 28 #[v] w (LongPost l w) := by
  obtain ⟨ao, cap, rfl, h1, h2, H3⟩ := hv
  have HM := Lib.hid H3
  clear H3
  go_enter Tryz.func28, Tryz.ntmps28
  by_cases h12 : l.length ≤ 12
  · go_wp2_with fail
    go_loop [3] (fun i => ∃ k : Nat, k ≤ l.length ∧ i = .int .i64 k ∧ Hid (∀ j, (h : j < l.length) → j < k → Small l[j])) (fun i => l.length - (intOf i).toNat)
    case atStart => exact ⟨0, Nat.zero_le _, rfl, fun j _ h => absurd h (Nat.not_lt_zero _)⟩
    case round =>
      obtain ⟨k, hk, rfl, HA⟩ := hrel
      by_cases hlt : k < l.length
      · obtain ⟨b, off, rfl, hbl, hcell⟩ := HM.out k hlt
        obtain ⟨d1, tv, d2, d3⟩ := hcell k hlt
        have HK : Hid (Small l[k] → ∀ j, (h : j < l.length) → j < k + 1 → Small l[j]) := fun hsm j h hj => by
          by_cases e : j = k
          · subst e; exact hsm
          · exact HA.out j h (by omega)
        clear hcell HA
        generalize l[k] = r at d1 d3 HK
        obtain ⟨f, ts⟩ := r
        simp only at d1 d3
        obtain ⟨ao2, cap2, rfl, g1, g2, G3⟩ := d3.parts
        have HG := Lib.hid G3
        clear G3 d3
        by_cases hf : f.size ≤ 120
        · by_cases ht : ts.length ≤ 10
          · go_wp2_with fail
            go_loop [4] (fun i => ∃ m : Nat, m ≤ ts.length ∧ i = .int .i64 m ∧ Hid (∀ j, (h : j < ts.length) → j < m → ts[j].size ≤ 120)) (fun i => ts.length - (intOf i).toNat)
            case atStart => exact ⟨0, Nat.zero_le _, rfl, fun j _ h => absurd h (Nat.not_lt_zero _)⟩
            case round =>
              obtain ⟨m, hm, rfl, HB⟩ := hrel
              by_cases hmt : m < ts.length
              · obtain ⟨b2, off2, rfl, hbl2, hcell2⟩ := HG.out m hmt
                have cl := hcell2 m hmt
                have HC : Hid (ts[m].size ≤ 120 → ∀ j, (h : j < ts.length) → j < m + 1 → ts[j].size ≤ 120) := fun hsm j h hj => by
                  by_cases e : j = m
                  · subst e; exact hsm
                  · exact HB.out j h (by omega)
                clear hcell2 HB
                generalize ts[m] = t at cl HC
                by_cases hz : t.size ≤ 120
                · have HC2 := Lib.hid (HC.out hz)
                  clear HC
                  go_wp2_with fail
                  go_round
                  case rel => exact ⟨m + 1, by omega, by go_num, HC2⟩
                  case measure => simp [intOf]; omega
                · go_wp2_with fail
                  go_ret
                  exact ⟨⟨1, rfl, .inr rfl, fun h => by cases h⟩, rfl⟩
              · obtain rfl : m = ts.length := by omega
                have HK2 := Lib.hid (HK.out ⟨hf, ht, fun t h => by obtain ⟨j, hj, rfl⟩ := List.getElem_of_mem h; exact HB.out j hj hj⟩)
                clear HB HK
                go_wp2_with fail
                go_round
                case rel => exact ⟨k + 1, by omega, by go_num, HK2⟩
                case measure => simp [intOf]; omega
          · go_wp2_with fail
            go_ret
            exact ⟨⟨1, rfl, .inr rfl, fun h => by cases h⟩, rfl⟩
        · go_wp2_with fail
          go_ret
          exact ⟨⟨1, rfl, .inr rfl, fun h => by cases h⟩, rfl⟩
      · obtain rfl : k = l.length := by omega
        have HT : Hid (l.length ≤ 12 ∧ ∀ r ∈ l, Small r) := ⟨h12, fun r h => by obtain ⟨j, hj, rfl⟩ := List.getElem_of_mem h; exact HA.out j hj hj⟩
        clear HA
        go_wp2_with fail
        go_ret
        exact ⟨⟨0, rfl, .inl rfl, fun _ => HT.out⟩, rfl⟩
  · go_wp2_with fail
    go_ret
    exact ⟨⟨1, rfl, .inr rfl, fun h => by cases h⟩, rfl⟩

/-- Rules that the call owns: their row, and each row of theirs. -/
def RulesOwn (w : World) (base : Nat) (v : Value) (l : List RuleB) : Prop :=
  ∃ tvs : List Value, tvs.length = l.length ∧ w.ownsRow base 100 2 v l.length ((l.zip tvs).flatMap fun p => [Value.string p.1.1, p.2]) ∧
    ∀ j, (hj : j < l.length) → ∃ tv, tvs[j]? = some tv ∧ w.ownsRow base 9 1 tv l[j].2.length (l[j].2.map Value.string)
theorem Tryz.infoR : (Tryz.prog.info? 100).map (fun i => (i.zero, i.size, i.bytes)) = some (some (.agg #[.string ⟨#[]⟩, .slice none 0 0]), 2, 40) := by kernel_rfl

theorem RulesOwn.row {w : World} {base : Nat} {v : Value} {l : List RuleB} (h : RulesOwn w base v l) : RulesRow w v l := by
  obtain ⟨tvs, hl, ho, hr⟩ := h
  rcases id ho.2 with ⟨rfl, h0⟩ | ⟨g, cap, cur, rfl, hb, hg, hn, hc, hsz, ht⟩
  · refine ⟨none, 0, by rw [h0], by omega, Nat.zero_le _, fun i hi => by omega⟩
  · refine ⟨some ⟨g, 0, none⟩, cap, rfl, hn, hc, fun i hi => ⟨g, 0, rfl, (Array.getElem?_eq_some_iff.1 hg).1, fun j hj => ?_⟩⟩
    obtain ⟨tv, htv, hrow⟩ := hr j hj
    have hz : (l.zip tvs)[j]? = some (l[j], tv) := by rw [List.getElem?_zip_eq_some]; exact ⟨List.getElem?_eq_getElem hj, htv⟩
    have hzl : j < (l.zip tvs).length := (List.getElem?_eq_some_iff.1 hz).1
    have hz2 : (l.zip tvs)[j] = (l[j], tv) := (List.getElem?_eq_some_iff.1 hz).2
    have e0 := flatMap_at (fun p : RuleB × Value => [Value.string p.1.1, p.2]) 2 (fun _ => rfl) (l.zip tvs) j 0 hzl (by decide)
    have e1 := flatMap_at (fun p : RuleB × Value => [Value.string p.1.1, p.2]) 2 (fun _ => rfl) (l.zip tvs) j 1 hzl (by decide)
    rw [hz2] at e0 e1
    have c0 := ho.cells (g := g) rfl (j * 2 + 0) (.string l[j].1) e0
    have c1 := ho.cells (g := g) rfl (j * 2 + 1) tv e1
    rw [Addr.add_lit] at c0 c1
    refine ⟨by simpa using c0, tv, by simpa [Nat.add_assoc] using c1, RowP.of_row (row_of_own hrow)⟩
theorem grownBy_set (W : World) (b o : Nat) (v : Value) : W.grownBy (W.setCell ⟨b, o, none⟩ v) (some b) :=
  ⟨rfl, rfl, rfl, by simp, fun k _ hk => Below.heap_setCell _ _ _ k (fun e => hk (by rw [e]))⟩
theorem row_shape {w : World} {base : Nat} {e : TypeId} {size : Nat} {v : Value} {n : Nat} {xs : List Value} (h : w.ownsRow base e size v n xs) : ∃ a cap, v = .slice a n cap := by
  obtain ⟨h1, ⟨rfl, rfl⟩ | ⟨g, cap, cur, h3, _⟩⟩ := h
  · exact ⟨_, _, rfl⟩
  · exact ⟨_, _, h3⟩
theorem RulesOwn.ext {w w' : World} {base : Nat} {v : Value} {l : List RuleB} (h : RulesOwn w base v l) (hb : Below w.heap.size w w') : RulesOwn w' base v l := by
  obtain ⟨tvs, hl, ho, hr⟩ := h
  refine ⟨tvs, hl, owns_below ho hb, fun j hj => ?_⟩
  obtain ⟨tv, htv, hrow⟩ := hr j hj
  exact ⟨tv, htv, owns_below hrow hb⟩
theorem RulesOwn.nil (w : World) (base : Nat) : RulesOwn w base (.slice none 0 0) [] := ⟨[], rfl, World.ownsRow_nil _ _ _ _, fun _ hj => absurd hj (Nat.not_lt_zero _)⟩
/-- Rows of two types lie apart. -/
theorem own_apart {w : World} {base base' : Nat} {e e' : TypeId} {size size' n n' : Nat} {v v' : Value} {xs xs' : List Value} (h : w.ownsRow base e size v n xs) (h' : w.ownsRow base' e' size' v' n' xs') (hne : e ≠ e') :
    v.ownBlock = none ∨ v.ownBlock ≠ v'.ownBlock := by
  rcases h.2 with ⟨rfl, _⟩ | ⟨g, cap, cur, rfl, _, hg, _⟩
  · exact .inl rfl
  · refine .inr fun e1 => ?_
    rcases h'.2 with ⟨rfl, _⟩ | ⟨g', cap', cur', rfl, _, hg', _⟩
    · simp [Value.ownBlock] at e1
    · obtain rfl : g = g' := by simpa [Value.ownBlock] using e1
      rw [hg] at hg'
      injection hg' with h1
      injection h1 with _ h2
      exact hne h2
theorem own_not {w : World} {base : Nat} {e t : TypeId} {size n X : Nat} {v : Value} {xs : List Value} {c : Array Value} {fr : Nat × Nat} (h : w.ownsRow base e size v n xs) (hX : w.heap[X]? = some (.cells c t fr)) (hne : e ≠ t) :
    v.ownBlock = none ∨ v.ownBlock ≠ some X := by
  rcases h.2 with ⟨rfl, _⟩ | ⟨g, cap, cur, rfl, _, hg, _⟩
  · exact .inl rfl
  · refine .inr fun e1 => ?_
    obtain rfl : g = X := by simpa [Value.ownBlock] using e1
    rw [hg] at hX
    injection hX with h1
    injection h1 with _ h2
    exact hne h2
/-- One rule more. -/
theorem RulesOwn.snoc {w w' : World} {base : Nat} {o o' tv : Value} {l : List RuleB} {r : RuleB} {tvs : List Value} (h1 : tvs.length = l.length)
    (h2 : w.ownsRow base 100 2 o l.length ((l.zip tvs).flatMap fun p => [Value.string p.1.1, p.2]))
    (h3 : ∀ j, (hj : j < l.length) → ∃ tv, tvs[j]? = some tv ∧ w.ownsRow base 9 1 tv l[j].2.length (l[j].2.map Value.string))
    (hr : w.ownsRow base 9 1 tv r.2.length (r.2.map Value.string))
    (ho : w'.ownsRow base 100 2 o' (l.length + 1) (((l.zip tvs).flatMap fun p => [Value.string p.1.1, p.2]) ++ [.string r.1, tv])) (hg : w.grownBy w' o.ownBlock) : RulesOwn w' base o' (l ++ [r]) := by
  refine ⟨tvs ++ [tv], by simp [h1], ?_, fun j hj => ?_⟩
  · rw [List.zip_append h1.symm, List.flatMap_append, List.length_append]
    simpa using ho
  · by_cases hlt : j < l.length
    · obtain ⟨tvj, e1, e2⟩ := h3 j hlt
      refine ⟨tvj, by rw [List.getElem?_append_left (by omega)]; exact e1, ?_⟩
      rw [List.getElem_append_left hlt]
      exact e2.kept hg (own_apart e2 h2 (by decide))
    · obtain rfl : j = l.length := by simp at hj; omega
      refine ⟨tv, by rw [← h1]; simp, ?_⟩
      rw [List.getElem_append_right (Nat.le_refl _)]
      simp only [Nat.sub_self, List.getElem_cons_zero]
      exact hr.kept hg (own_apart hr h2 (by decide))
theorem heap_new (w : World) (o : Obj) : (w.alloc o).heap[w.heap.size]? = some o := by
  show (w.heap.push o)[w.heap.size]? = some o
  simp

set_option maxHeartbeats 2000000 in
set_option maxRecDepth 100000 in
theorem ownRules_any (v : Value) (l : List RuleB) (w : World) (hn : l.length ≤ 1000) (hs : ∀ r ∈ l, Small r) (hv : RulesRow w v l) :
    Calls Tryz.prog 13 #[v] w fun e w' => (∃ ov, e = .returned ov ∧ Hid (RulesOwn w' w.heap.size ov l)) ∧ Below w.heap.size w w' := by
  obtain ⟨i0, hi0, hz0, hz1, hz2⟩ := info_parts Tryz.infoW
  obtain ⟨i1, hi1, hy0, hy1, hy2⟩ := info_parts Tryz.infoR
  obtain ⟨ao, cap, rfl, h1, h2, H3⟩ := hv
  have HM := Lib.hid H3
  have HS := Lib.hid hs
  clear H3 hs
  go_enter Tryz.func13, Tryz.ntmps13
  go_wp2_with fail
  go_loopw [3, 4, 5, 6] (fun o i _ _ wr => ∃ k : Nat, k ≤ l.length ∧ i = .int .i64 k ∧ Hid (RulesOwn wr w.heap.size o (l.take k)) ∧ Below w.heap.size w wr) (fun _ i _ _ _ => l.length - (intOf i).toNat)
  case atStart => exact ⟨0, Nat.zero_le _, rfl, RulesOwn.nil _ _, Below.refl _ _⟩
  case round =>
    obtain ⟨k, hk, rfl, HO, hb⟩ := hrel
    by_cases hlt : k < l.length
    · obtain ⟨b, off, rfl, hbl, hcell⟩ := HM.out k hlt
      obtain ⟨d1, tv, d2, d3⟩ := hcell k hlt
      have cl1 := (hb.cell (p := ⟨b, off + k * 2, none⟩) hbl).trans d1
      have cl2 := (hb.cell (p := ⟨b, off + k * 2 + 1, none⟩) hbl).trans d2
      have HT := Lib.hid (d3.ext hb)
      have HK : Hid (l.take (k + 1) = l.take k ++ [l[k]]) := by show _ = _; rw [List.take_add_one, List.getElem?_eq_getElem hlt]; rfl
      have HZ := Lib.hid (HS.out l[k] (List.getElem_mem hlt))
      clear hcell d1 d2 d3
      generalize l[k] = r at cl1 HT HK HZ
      obtain ⟨f, ts⟩ := r
      simp only at cl1
      obtain ⟨hf, ht, htz⟩ := HZ.out
      simp only at hf ht
      clear htz
      obtain ⟨ao2, cap2, rfl, g1, g2, g3, g4⟩ := HT.out
      dsimp only at cl2 g1 g4
      cases ao2 with
      | none =>
        obtain rfl := g3 rfl
        have h0 : ts.length = 0 := Nat.le_zero.1 g1
        have hts : ts = [] := List.eq_nil_of_length_eq_zero h0
        subst hts
        simp only [List.length_nil] at cl2
        have bX : Below wr.heap.size wr ((wr.alloc (.cells #[.string f, .slice none 0 0] 100)).alloc (.cells #[.string f, .slice none 0 0] 100)) := ((Below.refl _ wr).alloc (Nat.le_refl _) _).alloc (by simp) _
        have hkl : (l.take k).length = k := by rw [List.length_take]; omega
        obtain ⟨tvs, t1, t2, t3⟩ := HO.out.ext bX
        have T1 := Lib.hid t1; have T3 := Lib.hid t3; have T2 := Lib.hid t2
        rw [hkl] at t2
        have HKL := Lib.hid hkl
        clear t1 t3 hkl
        clear g4 HT
        go_wp2_with (at_builtin; refine wpList_append_own _ rfl _ _ 23 rfl w.heap.size 100 i1 (.agg #[.string ⟨#[]⟩, .slice none 0 0]) 2 40 Tryz.underlying23 hi1 hy0 hy1 hy2 rfl (by decide) _ _ _ rfl t2 ⟨wr.heap.size + 1, 0, none⟩ 1 1 [.string f, .slice none 0 0] rfl rfl ?n1 ?n2 ?n3 ?n4 ?n5 ?_)
        case n2 => first | decide | (intro u hu; simp at hu; rcases hu with rfl | rfl <;> rfl) | simp [Value.oneCell']
        case n3 => rw [maxLen_eq]; omega
        case n4 => omega
        case n5 => have := hb.size; simp; omega
        intro v7 w7 hown7 hgrow7 _
        have hb7 : Below w.heap.size w w7 := (hb.trans (bX.mono hb.size)).grown hgrow7 (by have := hb.size; simp; omega) (fun r e => (t2.lt r e).1)
        have H8 : Hid (RulesOwn w7 w.heap.size v7 (l.take (k + 1))) := by
          show RulesOwn _ _ _ _
          rw [HK.out]
          exact RulesOwn.snoc (r := (f, [])) T1.out T2.out T3.out (World.ownsRow_nil _ _ _ _) (by rw [HKL.out]; exact hown7) hgrow7
        clear hown7 hgrow7 t2
        go_wp2_with fail
        go_roundw
        case rel => exact ⟨k + 1, by omega, by go_num, H8, hb7⟩
        case measure => simp [intOf]; omega
      | some ad =>
        have bA : Below wr.heap.size wr (wr.alloc (.cells #[.string f, .slice (some ad) ts.length cap2] 100)) := (Below.refl _ wr).alloc (Nat.le_refl _) _
        have G4 := Lib.hid g4
        clear g4 HT
        go_wp2_with (at_builtin; refine wpList_append_own _ rfl _ _ 35 rfl w.heap.size 9 i0 (.string ⟨#[]⟩) 1 16 Tryz.underlying35 hi0 hz0 hz1 hz2 rfl (by decide) (.slice none 0 0) 0 [] rfl (World.ownsRow_nil _ _ _ _) ad ts.length cap2 (ts.map Value.string) rfl (by simp) ?c1 ?c2 ?c3 ?c4 ?c5 ?_)
        case c1 =>
          intro j u hj
          rw [List.getElem?_map] at hj
          cases ht2 : ts[j]? with
          | none => rw [ht2] at hj; cases hj
          | some t =>
            rw [ht2] at hj
            obtain rfl := Option.some.inj hj
            obtain ⟨hj2, ht3⟩ := List.getElem?_eq_some_iff.1 ht2
            obtain ⟨b2, off2, e, hbl2, hc2⟩ := G4.out j hj2
            obtain rfl := Option.some.inj e
            rw [Addr.add_lit]
            have := hc2 j hj2
            rw [ht3] at this
            exact (bA.cell (p := ⟨b2, off2 + j, none⟩) hbl2).trans this
        case c2 => intro u hu; obtain ⟨y, _, rfl⟩ := List.mem_map.1 hu; rfl
        case c3 => rw [maxLen_eq]; omega
        case c4 => omega
        case c5 => have := hb.size; simp; omega
        intro v5 w5 hown5 hgrow5 _
        have hr5 : w5.ownsRow w.heap.size 9 1 v5 ts.length (ts.map Value.string) := by simpa using hown5
        have bB : Below wr.heap.size wr w5 := bA.grown hgrow5 (by simp) (fun r e => by simp [Value.ownBlock] at e)
        have hX : w5.heap[wr.heap.size]? = some (.cells #[.string f, .slice (some ad) ts.length cap2] 100 (0, 0)) := (hgrow5.block wr.heap.size (by simp) (by simp [Value.ownBlock])).trans (heap_new wr _)
        obtain ⟨a5, cap5, rfl⟩ := row_shape hr5
        have x0 : w5.cell? ⟨wr.heap.size, 0, none⟩ = some (.string f) := by simp [World.cell?, hX]
        have x1 : w5.cell? ⟨wr.heap.size, 1, none⟩ = some (.slice (some ad) ts.length cap2) := by simp [World.cell?, hX]
        have xf : ∀ n, w5.frozen? ⟨wr.heap.size, n, none⟩ = false := fun n => by simp [World.frozen?, hX]
        have xf1 := xf 1
        have gs := grownBy_set w5 wr.heap.size 1 (.slice a5 ts.length cap5)
        have hr6 : (w5.setCell ⟨wr.heap.size, 1, none⟩ (.slice a5 ts.length cap5)).ownsRow w.heap.size 9 1 (.slice a5 ts.length cap5) ts.length (ts.map Value.string) := hr5.kept gs (own_not hr5 hX (by decide))
        have bC : Below wr.heap.size wr ((w5.setCell ⟨wr.heap.size, 1, none⟩ (.slice a5 ts.length cap5)).alloc (.cells #[.string f, .slice a5 ts.length cap5] 100)) :=
          (bB.setCell (p := ⟨wr.heap.size, 1, none⟩) (Nat.le_refl _) _).alloc (by have := bB.size; simp; omega) _
        have HR8 := Lib.hid (hr6.alloc (.cells #[.string f, .slice a5 ts.length cap5] 100))
        have hkl : (l.take k).length = k := by rw [List.length_take]; omega
        obtain ⟨tvs, t1, t2, t3⟩ := HO.out.ext bC
        have T1 := Lib.hid t1; have T3 := Lib.hid t3; have T2 := Lib.hid t2
        rw [hkl] at t2
        have HKL := Lib.hid hkl
        have HBC := Lib.hid bC
        have hb5 : w.heap.size ≤ w5.heap.size := Nat.le_trans hb.size bB.size
        clear hown5 hgrow5 xf t1 t3 hkl gs hr6 hr5 bC bB hX
        go_wp2_with (at_builtin; refine wpList_append_own _ rfl _ _ 23 rfl w.heap.size 100 i1 (.agg #[.string ⟨#[]⟩, .slice none 0 0]) 2 40 Tryz.underlying23 hi1 hy0 hy1 hy2 rfl (by decide) _ _ _ rfl t2 ⟨w5.heap.size, 0, none⟩ 1 1 [.string f, .slice a5 ts.length cap5] rfl rfl ?m1 ?m2 ?m3 ?m4 ?m5 ?_)
        case m1 =>
          intro j u hj
          match j, hj with
          | 0, hj => simp at hj; subst hj; rw [Addr.add_lit, World.cell?_alloc_at _ _ _ _ (by simp)]; simp
          | 1, hj => simp at hj; subst hj; rw [Addr.add_lit, World.cell?_alloc_at _ _ _ _ (by simp)]; simp
        case m2 => intro u hu; simp at hu; rcases hu with rfl | rfl <;> rfl
        case m3 => rw [maxLen_eq]; omega
        case m4 => omega
        case m5 => simp; omega
        intro v7 w7 hown7 hgrow7 _
        have hb7 : Below w.heap.size w w7 := (hb.trans (HBC.out.mono hb.size)).grown hgrow7 (by simp; omega) (fun r e => (t2.lt r e).1)
        have H8 : Hid (RulesOwn w7 w.heap.size v7 (l.take (k + 1))) := by
          show RulesOwn _ _ _ _
          rw [HK.out]
          exact RulesOwn.snoc (r := (f, ts)) T1.out T2.out T3.out HR8.out (by rw [HKL.out]; exact hown7) hgrow7
        clear hown7 hgrow7 t2
        go_wp2_with fail
        go_roundw
        case rel => exact ⟨k + 1, by omega, by go_num, H8, hb7⟩
        case measure => simp [intOf]; omega
    · obtain rfl : k = l.length := by omega
      have HO2 : Hid (RulesOwn wr w.heap.size u3 l) := by have := HO.out; rwa [List.take_length] at this
      go_wp2_with fail
      go_ret
      exact ⟨⟨_, rfl, HO2⟩, hb⟩
end Go.Proofs.YtomceddfbfpjjaaGreatDoor
