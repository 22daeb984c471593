/- chandlerylaw2.MirrorWays: the walk. -/
import Derived.Test.YtpafddeakanopaaGreatDoorMirrorOwn
import Derived.Test.YtpafddeakanopaaGreatDoorSameTexts
import Derived.Deep.RegionLaw
import Derived.Deep.RegionWith
namespace Go.Proofs.YtpafddeakanopaaGreatDoor
open Go Go.RowKit

/-- append to a row of the call's own, as one step of a region that draws. -/
theorem step_append_own {P : Program} {ops : Array Oper} {o : Oper} {a : Act} {w : World} {K : Act → World → Prop} {Q : Exit → Act → World → Prop} {E : Prop}
    (hg : o.guard = none) (s x : Operand) (t : TypeId) (hop : o.op = Op.call { callee := Callee.builtin Builtin.append, args := #[s, x], argTypes := #[t, t] })
    (base : Nat) (e : TypeId) (i : TypeInfo) (z : Value) (size bytes : Nat) (h1 : P.underlying t = some (.slice e)) (h2 : P.info? e = some i) (h3 : i.zero = some z) (h4 : i.size = size) (h5 : i.bytes = bytes) (h6 : z.cells.size = size) (h7 : 0 < size)
    (v : Value) (k : Nat) (xs : List Value) (hs : a.eval s = v) (hown : w.ownsRow base e size v k xs) (ad : Addr) (m c : Nat) (news : List Value) (hx : a.eval x = .slice (some ad) m c) (hn : news.length = m * size)
    (hc : ∀ j u, news[j]? = some u → w.cell? (ad.add j) = some u) (h1c : ∀ u ∈ news, u.oneCell' = true) (b1 : k + m ≤ maxLen) (b2 : (k + m) * bytes ≤ 140737488355328) (b3 : base ≤ w.heap.size)
    (hK : ∀ v' w', w'.ownsRow base e size v' (k + m) (xs ++ news) → w.grownBy w' v.ownBlock → K (a.put o.dst v') w') :
    if Region.wanted o (yielded ops a.tmps) = true then Oper.wp P o a w K Q else E := by
  have hw : Region.wanted o (yielded ops a.tmps) = true := by simp [Region.wanted, hg]
  rw [if_pos hw]
  obtain ⟨v', w', hrun, r1, r2, r3⟩ := run_append_own (P := P) w base t o.type e i z size bytes h1 h2 h3 h4 h5 h6 h7 v k xs hown ad m c news hn hc h1c b1 b2 b3
  unfold Oper.wp
  simp [execOp, hop, resolve, invoke, builtin, hs, hx, hrun, Result.andThen]
  exact hK v' w' r1 r2

theorem sub_rules {w : World} {b off : Nat} {l : List RuleB} (h : ∀ j, (hj : j < l.length) → w.cell? ⟨b, off + j * 2, none⟩ = some (.string l[j].1) ∧ ∃ tv, w.cell? ⟨b, off + j * 2 + 1, none⟩ = some tv ∧ RowP w tv l[j].2) (hb : b < w.heap.size)
    (i m : Nat) (hi : i + m ≤ l.length) (o : Nat) (ho : o = off + i * 2) (c : Nat) (hc : m ≤ c) (hc2 : c ≤ maxLen) : RulesRow w (.slice (some ⟨b, o, none⟩) m c) ((l.drop i).take m) := by
  subst ho
  have hl : ((l.drop i).take m).length = m := by rw [List.length_take, List.length_drop]; omega
  refine ⟨some ⟨b, off + i * 2, none⟩, c, by rw [hl], by rw [hl]; exact hc, hc2, fun j hj => ⟨b, off + i * 2, rfl, hb, fun j hj => ?_⟩⟩
  rw [hl] at hj
  obtain ⟨c1, tv, c2, c3⟩ := h (i + j) (by omega)
  have e : ((l.drop i).take m)[j]'(by rw [hl]; exact hj) = l[i + j]'(by omega) := by rw [List.getElem_take, List.getElem_drop]
  rw [e]
  refine ⟨by rw [show off + i * 2 + j * 2 = off + (i + j) * 2 by omega]; exact c1, tv, by rw [show off + i * 2 + j * 2 + 1 = off + (i + j) * 2 + 1 by omega]; exact c2, c3⟩

set_option maxHeartbeats 1000000 in
set_option maxRecDepth 100000 in
theorem mirrored_any {E : Nat → Addr} (w : World) (hE : LEnv E w) : Calls Tryz.prog 4 #[] w fun e w' => e = .returned (.bool true) ∧ Below w.heap.size w w' := by
  have s1 : (waysEr [([104, 116, 116, 112, 58, 47, 47, 97, 47], [[102, 116, 112, 58, 47, 47, 98, 47]])] [104, 116, 116, 112, 58, 47, 47, 97, 47, 120]) = ⟨0, none⟩ := by kernel_rfl
  have s2 : (waysOut [([104, 116, 116, 112, 58, 47, 47, 97, 47], [[102, 116, 112, 58, 47, 47, 98, 47]])] [104, 116, 116, 112, 58, 47, 47, 97, 47, 120]) = [[102, 116, 112, 58, 47, 47, 98, 47, 120], [104, 116, 116, 112, 58, 47, 47, 97, 47, 120]] := by decide +kernel
  have S1 := Lib.hid s1; have S2 := Lib.hid s2
  clear s1 s2
  have b0 : Below w.heap.size w ((w.alloc (.cells #[.string ⟨#[102, 116, 112, 58, 47, 47, 98, 47]⟩] 9)).alloc (.cells #[.string ⟨#[104, 116, 116, 112, 58, 47, 47, 97, 47]⟩, .slice (some ⟨w.heap.size, 0, none⟩) 1 1] 41)) :=
    ((Below.refl _ w).alloc (Nat.le_refl _) _).alloc (by simp) _
  have hv : RulesRow ((w.alloc (.cells #[.string ⟨#[102, 116, 112, 58, 47, 47, 98, 47]⟩] 9)).alloc (.cells #[.string ⟨#[104, 116, 116, 112, 58, 47, 47, 97, 47]⟩, .slice (some ⟨w.heap.size, 0, none⟩) 1 1] 41))
      (.slice (some ⟨w.heap.size + 1, 0, none⟩) 1 1) [(⟨#[104, 116, 116, 112, 58, 47, 47, 97, 47]⟩, [⟨#[102, 116, 112, 58, 47, 47, 98, 47]⟩])] := by
    refine ⟨_, 1, rfl, Nat.le_refl _, by rw [maxLen_eq]; omega, fun i hi => ⟨w.heap.size + 1, 0, rfl, by simp, fun j hj => ?_⟩⟩
    obtain rfl : j = 0 := by simp at hj; exact hj
    refine ⟨by rw [World.cell?_alloc_at _ _ _ _ (by simp)]; rfl, .slice (some ⟨w.heap.size, 0, none⟩) 1 1, by rw [World.cell?_alloc_at _ _ _ _ (by simp)]; rfl,
      ⟨some ⟨w.heap.size, 0, none⟩, 1, rfl, Nat.le_refl _, by rw [maxLen_eq]; omega, (fun h => by cases h), fun i hi => ⟨w.heap.size, 0, rfl, by simp; omega, fun k hk => ?_⟩⟩⟩
    obtain rfl : k = 0 := by simp at hk; exact hk
    rw [World.cell?_alloc_lt _ _ _ (by simp), World.cell?_alloc_at _ _ _ _ rfl]; rfl
  have hsm : ∀ r ∈ ([(⟨#[104, 116, 116, 112, 58, 47, 47, 97, 47]⟩, [⟨#[102, 116, 112, 58, 47, 47, 98, 47]⟩])] : List RuleB), Small r := by
    intro r hr
    obtain rfl := List.mem_singleton.1 hr
    exact ⟨by decide, by decide, fun t ht => by obtain rfl := List.mem_singleton.1 ht; decide⟩
  have C := Lib.hid (ways_any _ _ ⟨#[104, 116, 116, 112, 58, 47, 47, 97, 47, 120]⟩ _ (by decide) hsm (by decide) hv (hE.ext b0))
  clear hv hsm hE
  go_enter Tryz.func4, Tryz.ntmps4
  go_wp2_with fail
  refine C.out.mono ?_
  clear C
  intro e w1 hp
  unfold WaysPost at hp
  obtain ⟨⟨ov, ev, xs, rfl, HV, HR, HX, hx⟩, hb⟩ := hp
  have b1 := b0.trans (hb.mono b0.size)
  have HV2 : Hid (IsErr E w1 ev ⟨0, none⟩) := by show IsErr _ _ _ _; rw [← S1.out]; exact HV.out
  obtain rfl := HV2.out.nil_inv
  have HX2 : Hid (xs.map bl = [[102, 116, 112, 58, 47, 47, 98, 47, 120], [104, 116, 116, 112, 58, 47, 47, 97, 47, 120]]) := by
    show _ = _
    rw [HX.out, ← S2.out]
    exact if_pos (congrArg Er.code S1.out)
  obtain ⟨ao, cap, rfl, _, _, _⟩ := HR.out.parts
  have bC : Below w1.heap.size w1 (w1.alloc (.cells #[.string ⟨#[102, 116, 112, 58, 47, 47, 98, 47, 120]⟩, .string ⟨#[104, 116, 116, 112, 58, 47, 47, 97, 47, 120]⟩] 9)) := (Below.refl _ w1).alloc (Nat.le_refl _) _
  have C := Lib.hid (sameTexts_same (HR.out.ext bC) (Row.block1 Value.string w1 [⟨#[102, 116, 112, 58, 47, 47, 98, 47, 120]⟩, ⟨#[104, 116, 116, 112, 58, 47, 47, 97, 47, 120]⟩] 9 (by rw [maxLen_eq]; decide) w1.heap.size 2 rfl rfl) (by rw [HX2.out]; rfl) (by omega))
  clear HV HV2 HX
  go_wp2_with fail
  refine C.out.mono ?_
  clear C
  rintro e w2 ⟨rfl, hb2⟩
  go_wp2_with fail
  go_ret
  exact ⟨rfl, b1.trans ((bC.trans (hb2.mono (by simp))).mono b1.size)⟩
end Go.Proofs.YtpafddeakanopaaGreatDoor
