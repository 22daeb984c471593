/- package mirror: one, Check by their contracts. -/
import Derived.Test.YtpafddeakanopaaGreatDoorMirrorPlain
import Derived.Test.YtpafddeakanopaaGreatDoorLinkOf
import Derived.Test.YtpafddeakanopaaGreatDoorOwn
namespace Go.Proofs.YtpafddeakanopaaGreatDoor
open Go Go.RowKit

/-- A rule as memory holds it. -/
abbrev RuleB := ByteArray × List ByteArray
def ruleOf (r : RuleB) : RuleL := (bl r.1, r.2.map bl)
/-- The slice value v reads in w as these texts; where there are none, it may have any address. -/
def RowP (w : World) (v : Value) (l : List ByteArray) : Prop :=
  ∃ ao cap, v = .slice ao l.length cap ∧ l.length ≤ cap ∧ cap ≤ maxLen ∧ (ao = none → cap = 0) ∧ (∀ i, i < l.length → ∃ b off, ao = some ⟨b, off, none⟩ ∧ b < w.heap.size ∧ ∀ k, (hk : k < l.length) → w.cell? ⟨b, off + k, none⟩ = some (.string l[k]))
theorem RowP.parts {w : World} {v : Value} {l : List ByteArray} (h : RowP w v l) :
    ∃ ao cap, v = .slice ao l.length cap ∧ l.length ≤ cap ∧ cap ≤ maxLen ∧ (∀ i, (hi : i < l.length) → ∃ b off, ao = some ⟨b, off, none⟩ ∧ b < w.heap.size ∧ ∀ k, (hk : k < l.length) → w.cell? ⟨b, off + k, none⟩ = some (.string l[k])) := by
  obtain ⟨ao, cap, h1, h2, h3, _, h5⟩ := h
  exact ⟨ao, cap, h1, h2, h3, h5⟩
theorem RowP.ext {w w' : World} {v : Value} {l : List ByteArray} (h : RowP w v l) (hb : Below w.heap.size w w') : RowP w' v l := by
  obtain ⟨ao, cap, h1, h2, h3, h4, h5⟩ := h
  refine ⟨ao, cap, h1, h2, h3, h4, fun i hi => ?_⟩
  obtain ⟨b, off, e, hlt, hc⟩ := h5 i hi
  exact ⟨b, off, e, Nat.lt_of_lt_of_le hlt hb.size, fun k hk => (hb.cell (p := ⟨b, off + k, none⟩) hlt).trans (hc k hk)⟩
theorem RowP.of_row {w : World} {v : Value} {l : List ByteArray} (h : Row encStr 1 w v l) : RowP w v l := by
  rcases h.one with ⟨rfl, rfl⟩ | ⟨b, off, cap, rfl, h1, h2, h3, h4⟩
  · exact ⟨none, 0, rfl, Nat.le_refl _, Nat.zero_le _, fun _ => rfl, fun i hi => absurd hi (Nat.not_lt_zero _)⟩
  · exact ⟨some ⟨b, off, none⟩, cap, rfl, h1, h2, (fun h => by cases h), fun i hi => ⟨b, off, rfl, h3, h4⟩⟩
/-- The slice value v reads in w as the rules l. -/
def RulesRow (w : World) (v : Value) (l : List RuleB) : Prop :=
  ∃ ao cap, v = .slice ao l.length cap ∧ l.length ≤ cap ∧ cap ≤ maxLen ∧ ∀ i, i < l.length → ∃ b off, ao = some ⟨b, off, none⟩ ∧ b < w.heap.size ∧
    ∀ j, (hj : j < l.length) → w.cell? ⟨b, off + j * 2, none⟩ = some (.string l[j].1) ∧ ∃ tv, w.cell? ⟨b, off + j * 2 + 1, none⟩ = some tv ∧ RowP w tv l[j].2
theorem RulesRow.ext {w w' : World} {v : Value} {l : List RuleB} (h : RulesRow w v l) (hb : Below w.heap.size w w') : RulesRow w' v l := by
  obtain ⟨ao, cap, h1, h2, h3, h4⟩ := h
  refine ⟨ao, cap, h1, h2, h3, fun i hi => ?_⟩
  obtain ⟨b, off, e, hlt, hc⟩ := h4 i hi
  refine ⟨b, off, e, Nat.lt_of_lt_of_le hlt hb.size, fun j hj => ?_⟩
  obtain ⟨c1, tv, c2, c3⟩ := hc j hj
  exact ⟨(hb.cell (p := ⟨b, off + j * 2, none⟩) hlt).trans c1, tv, (hb.cell (p := ⟨b, off + j * 2 + 1, none⟩) hlt).trans c2, c3.ext hb⟩
/-- Rules that are few and short. -/
def Small (r : RuleB) : Prop := r.1.size ≤ 120 ∧ r.2.length ≤ 10 ∧ ∀ t ∈ r.2, t.size ≤ 120

theorem drop_bl (ts : List ByteArray) (k : Nat) (h : k < ts.length) : (ts.map bl).drop k = bl ts[k] :: (ts.map bl).drop (k + 1) := by
  rw [List.drop_eq_getElem_cons (by rw [List.length_map]; exact h), List.getElem_map]
theorem drop_end (ts : List ByteArray) : (ts.map bl).drop ts.length = [] := List.drop_of_length_le (by rw [List.length_map]; exact Nat.le_refl _)

set_option maxHeartbeats 400000 in
set_option maxRecDepth 100000 in
theorem one_any {E : Nat → Addr} (f : ByteArray) (tv : Value) (ts : List ByteArray) (w : World) (hs : Small (f, ts)) (hv : RowP w tv ts) (hE : LEnv E w) :
    Calls Tryz.prog 14 #[.agg #[.string f, tv]] w fun e w' => e = .returned (errV E (oneE (ruleOf (f, ts)))) ∧ Below w.heap.size w w' := by
  obtain ⟨hf, hn, ht⟩ := hs
  obtain ⟨ao, cap, rfl, h1, h2, H3⟩ := hv.parts
  have HM := Lib.hid H3
  have HT := Lib.hid ht
  have HE := Lib.hid hE
  clear H3 hv ht hE
  have b0 : Below w.heap.size w (w.alloc (.cells #[.string f, .slice ao ts.length cap] 41)) := (Below.refl _ w).alloc (Nat.le_refl _) _
  have k0 : (w.alloc (.cells #[.string f, .slice ao ts.length cap] 41)).cell? ⟨w.heap.size, 0, none⟩ = some (.string f) := by rw [World.cell?_alloc_at _ _ _ _ rfl]; rfl
  have k1 : (w.alloc (.cells #[.string f, .slice ao ts.length cap] 41)).cell? ⟨w.heap.size, 1, none⟩ = some (.slice ao ts.length cap) := by rw [World.cell?_alloc_at _ _ _ _ rfl]; rfl
  have kb : w.heap.size < (w.alloc (.cells #[.string f, .slice ao ts.length cap] 41)).heap.size := by simp
  go_enter Tryz.func14, Tryz.ntmps14
  go_wp2_with fail
  generalize hW : w.alloc (.cells #[.string f, .slice ao ts.length cap] 41) = W at *
  clear hW
  have C := Lib.hid (linkBegins_any f W (by have : f.size ≤ 120 := hf; omega) (HE.out.ext b0))
  refine C.out.mono ?_
  clear C
  rintro e w1 ⟨rfl, hb⟩
  have b1 := b0.trans (hb.mono b0.size)
  have c1 := (hb.cell (p := ⟨w.heap.size, 1, none⟩) kb).trans k1
  clear hb k0 k1 kb b0
  cases hc : beginE (bl f) with
  | succ c =>
    have HX : Hid (oneE (ruleOf (f, ts)) = c + 1) := by show _ = _; unfold oneE ruleOf; rw [if_neg (by rw [hc]; omega), hc]
    rw [show errV E (c + 1) = sentV E c from rfl]
    clear hc
    go_wp2_with fail
    go_ret
    exact ⟨by rw [HX.out]; rfl, b1⟩
  | zero =>
    rw [show errV E 0 = .nilIface from rfl]
    by_cases h8 : ts.length ≤ 8
    · have HX : Hid (oneE (ruleOf (f, ts)) = firstE (ts.map bl)) := by show _ = _; unfold oneE ruleOf; rw [if_pos hc, if_neg (by simp; omega)]
      clear hc
      go_wp2_with fail
      go_loopw [21] (fun i wr => ∃ k : Nat, k ≤ ts.length ∧ i = .int .i64 k ∧ Hid (firstE (ts.map bl) = firstE ((ts.map bl).drop k)) ∧ Below w1.heap.size w1 wr) (fun i _ => ts.length - (intOf i).toNat)
      case atStart => exact ⟨0, Nat.zero_le _, rfl, rfl, Below.refl _ _⟩
      case round =>
        obtain ⟨k, hk, rfl, HF, hb⟩ := hrel
        have b2 := b1.trans (hb.mono b1.size)
        by_cases hlt : k < ts.length
        · obtain ⟨b, off, rfl, hbl, hcell⟩ := HM.out k hlt
          have cl := (b2.cell (p := ⟨b, off + k, none⟩) hbl).trans (hcell k hlt)
          have sz := HT.out ts[k] (List.getElem_mem hlt)
          have HD := Lib.hid (drop_bl ts k hlt)
          clear hcell
          generalize ts[k] = t at cl sz HD
          have C := Lib.hid (linkBegins_any t wr (by omega) (HE.out.ext b2))
          go_wp2_with fail
          refine C.out.mono ?_
          clear C
          rintro e w3 ⟨rfl, hb3⟩
          cases hc : beginE (bl t) with
          | succ c =>
            have HY : Hid (firstE (ts.map bl) = c + 1) := by show _ = _; rw [HF.out, HD.out, firstE, if_neg (by omega), hc]
            rw [show errV E (c + 1) = sentV E c from rfl]
            clear hc HF HD
            go_wp2_with fail
            go_ret
            exact ⟨by rw [HX.out, HY.out]; rfl, b2.trans (hb3.mono b2.size)⟩
          | zero =>
            have HY : Hid (firstE (ts.map bl) = firstE ((ts.map bl).drop (k + 1))) := by show _ = _; rw [HF.out, HD.out, firstE, if_pos hc]
            rw [show errV E 0 = .nilIface from rfl]
            clear hc HF HD
            go_wp2_with fail
            go_roundw
            case rel => exact ⟨k + 1, by omega, by go_num, HY, hb.trans (hb3.mono hb.size)⟩
            case measure => simp [intOf]; omega
        · obtain rfl : k = ts.length := by omega
          have HY : Hid (firstE (ts.map bl) = 0) := by show _ = _; rw [HF.out, drop_end]; rfl
          go_wp2_with fail
          go_ret
          exact ⟨by rw [HX.out, HY.out]; rfl, b2⟩
    · have HX : Hid (oneE (ruleOf (f, ts)) = 7 + 1) := by show _ = _; unfold oneE ruleOf; rw [if_pos hc, if_pos (by simp; omega)]
      have c2 := (HE.out.ext b1).path.full
      clear hc
      go_wp2_with fail
      go_ret
      exact ⟨by rw [HX.out]; rfl, b1⟩

/-- Rules' error: a number, and where. -/
def rulesEr (l : List RuleL) : Er := if 10 < l.length then ⟨8, none⟩ else match badAt 0 l with
  | none => ⟨0, none⟩
  | some p => ⟨p.2, some (p.1 : Int)⟩
/-- What mirror.Check hands back. -/
def CheckPost (E : Nat → Addr) (l : List RuleB) (w : World) (e : Ending) (w' : World) : Prop :=
  (∃ ev, e = .returned ev ∧ Hid (IsErr E w' ev (rulesEr (l.map ruleOf)))) ∧ Below w.heap.size w w'

theorem drop_rule (l : List RuleB) (k : Nat) (h : k < l.length) : (l.map ruleOf).drop k = ruleOf l[k] :: (l.map ruleOf).drop (k + 1) := by
  rw [List.drop_eq_getElem_cons (by rw [List.length_map]; exact h), List.getElem_map]
theorem drop_rules (l : List RuleB) : (l.map ruleOf).drop l.length = [] := List.drop_of_length_le (by rw [List.length_map]; exact Nat.le_refl _)

set_option maxHeartbeats 1000000 in
set_option maxRecDepth 100000 in
theorem mirrorCheck_any {E : Nat → Addr} (v : Value) (l : List RuleB) (w : World) (hl : l.length ≤ 1000) (hs : ∀ r ∈ l, Small r) (hv : RulesRow w v l) (hE : LEnv E w) :
    Calls Tryz.prog 7 #[v] w (CheckPost E l w) := by
  have HR := Lib.hid hv
  obtain ⟨ao, cap, rfl, h1, h2, H3⟩ := hv
  have HM := Lib.hid H3
  have HS := Lib.hid hs
  have HE := Lib.hid hE
  clear H3 hs hE
  go_enter Tryz.func7, Tryz.ntmps7
  by_cases h10 : l.length ≤ 10
  · have HX : Hid (rulesEr (l.map ruleOf) = match badAt 0 (l.map ruleOf) with
        | none => ⟨0, none⟩
        | some p => ⟨p.2, some (p.1 : Int)⟩) := by show _ = _; unfold rulesEr; rw [if_neg (by rw [List.length_map]; omega)]
    go_wp2_with fail
    go_loopw [12] (fun i wr => ∃ k : Nat, k ≤ l.length ∧ i = .int .i64 k ∧ Hid (badAt 0 (l.map ruleOf) = badAt k ((l.map ruleOf).drop k)) ∧ Below w.heap.size w wr) (fun i _ => l.length - (intOf i).toNat)
    case atStart => exact ⟨0, Nat.zero_le _, rfl, rfl, Below.refl _ _⟩
    case round =>
      obtain ⟨k, hk, rfl, HF, hb⟩ := hrel
      by_cases hlt : k < l.length
      · obtain ⟨b, off, rfl, hbl, hcell⟩ := HM.out k hlt
        obtain ⟨d1, tv, d2, d3⟩ := hcell k hlt
        have cl1 := (hb.cell (p := ⟨b, off + k * 2, none⟩) hbl).trans d1
        have cl2 := (hb.cell (p := ⟨b, off + k * 2 + 1, none⟩) hbl).trans d2
        have HT := Lib.hid (d3.ext hb)
        have HZ := Lib.hid (HS.out l[k] (List.getElem_mem hlt))
        have HD := Lib.hid (drop_rule l k hlt)
        clear hcell d1 d2 d3
        generalize l[k] = r at cl1 HT HZ HD
        obtain ⟨f, ts⟩ := r
        obtain ⟨ao2, cap2, rfl, _⟩ := id HT.out
        simp only at cl1
        have C := Lib.hid (fun W (hb2 : Below wr.heap.size wr W) => one_any f _ ts W HZ.out (HT.out.ext hb2) (HE.out.ext (hb.trans (hb2.mono hb.size))))
        go_wp2_with fail
        refine (C.out _ ((Below.refl _ wr).alloc (Nat.le_refl _) _)).mono ?_
        clear C
        rintro e w3 ⟨rfl, hb3⟩
        have b3 := hb.trans ((((Below.refl wr.heap.size wr).alloc (Nat.le_refl _) (.cells #[.string f, .slice ao2 ts.length cap2] 41)).trans (hb3.mono (by simp))).mono hb.size)
        have hle := oneE_le (ruleOf (f, ts))
        obtain ⟨c, hc⟩ : ∃ c, oneE (ruleOf (f, ts)) = c := ⟨_, rfl⟩
        rw [hc] at hle ⊢
        cases c with
        | succ c =>
          have HY : Hid (rulesEr (l.map ruleOf) = ⟨c + 1, some (k : Int)⟩) := by
            show _ = _
            rw [HX.out, HF.out, HD.out, badAt, if_neg (by rw [hc]; omega), hc]
          rw [show errV E (c + 1) = sentV E c from rfl]
          clear hc HF HD
          go_wp2_with fail
          go_ret
          refine ⟨⟨_, rfl, ?_⟩, b3.alloc b3.size _⟩
          show IsErr _ _ _ _
          rw [HY.out]
          exact IsErr.fault E _ c (by omega) _ _ (by rw [World.cell?_alloc_at _ _ _ _ rfl]; rfl) (by rw [World.cell?_alloc_at _ _ _ _ rfl]; rfl)
        | zero =>
          have HY : Hid (badAt 0 (l.map ruleOf) = badAt (k + 1) ((l.map ruleOf).drop (k + 1))) := by
            show _ = _
            rw [HF.out, HD.out, badAt, if_pos hc]
          rw [show errV E 0 = .nilIface from rfl]
          clear hc HF HD
          go_wp2_with fail
          go_roundw
          case rel => exact ⟨k + 1, by omega, by go_num, HY, b3⟩
          case measure => simp [intOf]; omega
      · obtain rfl : k = l.length := by omega
        have HY : Hid (rulesEr (l.map ruleOf) = ⟨0, none⟩) := by show _ = _; rw [HX.out, HF.out, drop_rules]; rfl
        go_wp2_with fail
        go_ret
        exact ⟨⟨_, rfl, by show IsErr _ _ _ _; rw [HY.out]; exact IsErr.nil E _⟩, hb⟩
  · have HX : Hid (rulesEr (l.map ruleOf) = ⟨7 + 1, none⟩) := by show _ = _; unfold rulesEr; rw [if_pos (by rw [List.length_map]; omega)]
    have c2 := HE.out.path.full
    go_wp2_with fail
    go_ret
    exact ⟨⟨_, rfl, by show IsErr _ _ _ _; rw [HX.out]; exact IsErr.base E _ 7 (by decide)⟩, Below.refl _ _⟩
end Go.Proofs.YtpafddeakanopaaGreatDoor
