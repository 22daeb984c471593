/- The reference's LockFault, LockText: contracts. The reference's DropWant, SetWant: contracts. The reference's SetWant: the contract. -/
import Derived.Test.YtcjjbpoaojjojaaGreatDoorJLockUpEtc
import Derived.Test.YtcjjbpoaojjojaaGreatDoorJRefTreeUp
import Derived.Test.YtcjjbpoaojjojaaGreatDoorJRefWants
import Derived.BigQuiet
import Derived.Deep.RegionLaw
namespace Go.Proofs.YtcjjbpoaojjojaaGreatDoor
open Go Go.RowKit

/-- What the reference's LockFault hands back. -/
def RLFPost (l : List WantB) (w : World) (e : Ending) (w' : World) : Prop := e = .returned (.agg (erA (lockEr l))) ∧ Below w.heap.size w w'
theorem RLFPost.of {l : List WantB} {w w' : World} {c : Nat} {a : Int} (h : lockEr l = ⟨c, some a⟩) (hb : Below w.heap.size w w') : RLFPost l w (.returned (.agg #[.int .i64 c, .int .i64 a])) w' := ⟨by unfold erA; rw [h]; rfl, hb⟩

set_option maxHeartbeats 4000000 in
set_option maxRecDepth 100000 in
theorem refLockFault_any (v : Value) (l : List WantB) (w : World) (hv : WRow w v l) (hl : l.length ≤ 100000) (hS : ∀ f ∈ l, SmallW f) :
    Calls Tryz.prog 130 #[v] w (RLFPost l w) := by
  have HV := Lib.hid hv
  have HSM := Lib.hid hS
  obtain ⟨ao, cap, rfl⟩ := hv.len
  obtain ⟨g, hg⟩ : ∃ g, w.heap.size = g := ⟨_, rfl⟩
  obtain ⟨wg, hwg⟩ : ∃ wg, w.alloc (.cells #[.int .i64 0, .int .i64 0] 38) = wg := ⟨_, rfl⟩
  have hal : Below w.heap.size w wg := by rw [← hwg]; exact (Below.refl _ _).alloc (Nat.le_refl _) _
  have FG := Lib.hid (show FaultAt wg g 0 0 by rw [← hwg, ← hg]; exact FaultAt.new w 0 0)
  have hgw : w.heap.size ≤ g := Nat.le_of_eq hg
  have BG := Lib.hid hal
  have HWG := Lib.hid hwg
  have HG := Lib.hid hg
  clear hal hwg hg hv hS
  go_enter Tryz.func130, Tryz.ntmps130
  by_cases h20 : l.length ≤ 20
  rotate_left
  · have hd : decide ((l.length : Int) > 20) = true := decide_eq_true (by omega)
    have HY := Lib.hid (lockEr_many (l := l) (by omega))
    have C := Lib.hid (refBare_any 8 wg)
    go_wp2_with fail
    rw [HWG.out, HG.out]
    refine C.out.mono ?_
    clear C
    rintro e w1 ⟨rfl, hb1⟩
    have F1 := FG.out.ext hb1
    obtain ⟨y0, y1, y2, y3⟩ := F1.cells
    obtain ⟨s0, s1, s2⟩ := fault_end F1 8 (-1) w.heap.size hgw
    have B1 := Lib.hid ((BG.out.trans (hb1.mono BG.out.size)).trans s2)
    clear F1 hb1 s2
    go_wp2_with fail
    refine bodyPost_ret (v := .agg #[.int .i64 8, .int .i64 (-1)]) ?_ rfl ⟨by rw [HY.out]; rfl, B1.out⟩
    simp [results, Tryz.results130, go_sem, s0, s1]
  have hd : decide ((l.length : Int) > 20) = false := decide_eq_false (by omega)
  go_wp2_with fail
  rw [HWG.out, HG.out]
  go_loopw [3] (fun i wr => ∃ k : Nat, k ≤ l.length ∧ i = .int .i64 k ∧ Hid (lockGo none 0 l = lockGo (prevW l k) k (l.drop k)) ∧ Hid (Below wg.heap.size wg wr)) (fun i _ => l.length - (intOf i).toNat)
  case atStart => exact ⟨0, Nat.zero_le _, rfl, rfl, Below.refl _ _⟩
  case round =>
    obtain ⟨k, hk, rfl, HF, Bq⟩ := hrel
    have Bw := Lib.hid (BG.out.trans (Bq.out.mono BG.out.size))
    by_cases hlt : k < l.length
    · obtain ⟨b, off, rfl, hcell⟩ := HV.out.at hlt
      obtain ⟨q0, q1, q2, q3, q4⟩ := hcell wr Bw.out
      have HAT := Lib.hid (fun c => lockEr_at (c := c) h20 hlt HF.out)
      have HNX := Lib.hid (lockGo_next hlt HF.out)
      have HW := Lib.hid (fun c => lockE_want (c := c) hlt)
      have HFR := Lib.hid (fun h0 => lockE_from hlt h0)
      have HFI : Hid (k = 0 → wantE l[k] = 0 → lockE (prevW l k) l[k] = 0) := fun e h => by subst e; exact lockE_first hlt h
      have HPV : Hid (∀ h0 : 0 < k, ∀ W, Below w.heap.size w W → W.cell? ⟨b, off + (k - 1) * 5, none⟩ = some (.string (l[k - 1]'(by omega)).name)) := fun h0 W hW => by
        obtain ⟨b', off', e, h⟩ := HV.out.at (show k - 1 < l.length by omega)
        injection e with e
        injection e with e1 e2
        subst e1 e2
        exact (h W hW).1
      have HNM : Hid (∀ W, Below w.heap.size w W → W.cell? ⟨b, off + k * 5, none⟩ = some (.string l[k].name)) := fun W hW => (hcell W hW).1
      have sz := HSM.out l[k] (List.getElem_mem hlt)
      clear hcell
      obtain ⟨f, hf⟩ : ∃ f, l[k] = f := ⟨_, rfl⟩
      rw [hf] at q0 q1 q2 q3 q4 sz HAT HNX HW HFR HFI HNM
      clear hf
      have C := Lib.hid (refWantError_any f wr (by have := sz.1; omega) (by have := sz.2.1; omega))
      go_wp2_with fail
      refine C.out.mono ?_
      clear C q0 q1 q2 q3 q4
      rintro e w1 ⟨rfl, hb1⟩
      have B1 := Lib.hid (Bw.out.trans (hb1.mono Bw.out.size))
      have Bq1 := Lib.hid (Bq.out.trans (hb1.mono Bq.out.size))
      have F1 := Lib.hid (FG.out.ext Bq1.out)
      obtain ⟨y0, y1, y2, y3⟩ := F1.out.cells
      clear hb1 Bq
      cases hw : wantE f with
      | succ c =>
        have HY := Lib.hid (HAT.out c (HW.out c hw))
        obtain ⟨s0, s1, s2⟩ := fault_end F1.out ((c : Int) + 1) (k : Int) w.heap.size hgw
        have BZ := Lib.hid (B1.out.trans s2)
        have e0 : (((c + 1 : Nat) : Int) == 0) = false := by rw [beq_eq_false_iff_ne]; omega
        rw [show ((c + 1 : Nat) : Int) = (c : Int) + 1 from rfl] at e0 ⊢
        have hpos : (0 : Int) < (c : Int) + 1 := by omega
        clear HAT HNX HW HFR HFI HPV HNM hw HF s2
        go_wp2_with fail
        refine bodyPost_ret (v := .agg #[.int .i64 ((c : Int) + 1), .int .i64 k]) ?_ rfl (RLFPost.of (c := c + 1) HY.out BZ.out)
        simp [results, Tryz.results130, go_sem, s0, s1]
      | zero =>
        rw [show ((0 : Nat) : Int) = 0 from rfl]
        by_cases hk0 : k = 0
        · have HF2 : Hid (lockGo none 0 l = lockGo (prevW l (k + 1)) (k + 1) (l.drop (k + 1))) := HNX.out (HFI.out hk0 hw)
          have hd0 : decide ((k : Int) > 0) = false := decide_eq_false (by omega)
          have hkz : k ≤ 0 := by omega
          clear HAT HNX HW HFR HFI hw HF hk0 HPV HNM
          go_wp2_with fail
          go_roundw
          case rel => exact ⟨k + 1, by omega, by go_num, HF2, Bq1⟩
          case measure => simp [intOf]; omega
        · have h0 : 0 < k := by omega
          have hE := HFR.out h0 hw
          have p0 := HPV.out h0 w1 B1.out
          have p1 := HNM.out w1 B1.out
          obtain ⟨g2, hg2⟩ : ∃ x, l[k - 1]'(by omega) = x := ⟨_, rfl⟩
          rw [hg2] at hE p0
          have hwr : IntKind.i64.wrap ((k : Int) - 1) = ((k - 1 : Nat) : Int) := by rw [IntWalk.i64_in _ (by omega)]; omega
          have hd0 : decide ((k : Int) > 0) = true := decide_eq_true (by omega)
          have hkl : ((k - 1 : Nat) : Int) < (l.length : Int) := by omega
          obtain ⟨lq, hlq⟩ : ∃ lq, (Op.bytesLess f.name.toList g2.name.toList || f.name.toList == g2.name.toList) = lq := ⟨_, rfl⟩
          have HEQ : Hid (lockE (prevW l k) f = if lq = true then 9 else 0) := by show _ = _; rw [hE, leq_names, hlq]
          have HLQ := Lib.hid hlq
          clear hE hg2 hlq hw HW HFR HFI HPV HNM
          go_wp2_with fail
          go_quiet (fail)
          clear hwr hkl hd0 p0 p1
          rw [HLQ.out]
          obtain ⟨wq, hwq⟩ : ∃ wq, w1.drewN nq = wq := ⟨_, rfl⟩
          have hd : Below w1.heap.size w1 wq := by rw [← hwq]; exact below_drewN _ w1 nq
          have Bq2 := Lib.hid (Bq1.out.trans (hd.mono Bq1.out.size))
          have B2 := Lib.hid (B1.out.trans (hd.mono B1.out.size))
          have F2 := Lib.hid (F1.out.ext hd)
          rw [hwq]
          clear hwq y0 y1 y2 y3 F1 B1 Bq1 hd
          obtain ⟨y0, y1, y2, y3⟩ := F2.out.cells
          cases lq with
          | true =>
            have HY := Lib.hid (HAT.out 8 (by rw [HEQ.out]; rfl))
            obtain ⟨s0, s1, s2⟩ := fault_end F2.out 9 (k : Int) w.heap.size hgw
            have BZ := Lib.hid (B2.out.trans s2)
            clear HAT HNX HEQ HF s2
            go_wp2_with fail
            refine bodyPost_ret (v := .agg #[.int .i64 9, .int .i64 k]) ?_ rfl (RLFPost.of (c := 9) HY.out BZ.out)
            simp [results, Tryz.results130, go_sem, s0, s1]
          | false =>
            have HF2 : Hid (lockGo none 0 l = lockGo (prevW l (k + 1)) (k + 1) (l.drop (k + 1))) := HNX.out (by rw [HEQ.out]; rfl)
            clear HAT HNX HEQ HF
            go_wp2_with fail
            go_roundw
            case rel => exact ⟨k + 1, by omega, by go_num, HF2, Bq2⟩
            case measure => simp [intOf]; omega
    · obtain rfl : k = l.length := by omega
      have HY := Lib.hid (lockEr_end h20 HF.out)
      have C := Lib.hid (refFine_any wr)
      clear HF
      go_wp2_with fail
      refine C.out.mono ?_
      clear C
      rintro e w1 ⟨rfl, hb1⟩
      have F1 := FG.out.ext (Bq.out.trans (hb1.mono Bq.out.size))
      obtain ⟨y0, y1, y2, y3⟩ := F1.cells
      obtain ⟨s0, s1, s2⟩ := fault_end F1 0 (-1) w.heap.size hgw
      have B1 := Lib.hid ((Bw.out.trans (hb1.mono Bw.out.size)).trans s2)
      clear F1 hb1 s2
      go_wp2_with fail
      refine bodyPost_ret (v := .agg #[.int .i64 0, .int .i64 (-1)]) ?_ rfl ⟨by rw [HY.out]; rfl, B1.out⟩
      simp [results, Tryz.results130, go_sem, s0, s1]

end Go.Proofs.YtcjjbpoaojjojaaGreatDoor

namespace Go.Proofs.YtcjjbpoaojjojaaGreatDoor
open Go Go.RowKit

/- append(s, x...) of wants within a region that draws its order, s the call's own. -/
set_option maxRecDepth 100000 in
theorem step_append_wants {w : World} {ops : Array Oper} {o : Oper} {a : Act} {K : Act → World → Prop} {Q : Exit → Act → World → Prop} {E : Prop} (hgd : o.guard = none) (s x : Operand)
    (ho : o.op = .call { callee := .builtin .append, args := #[s, x], argTypes := #[79, 79] })
    (base : Nat) (v : Value) (l : List WantB) (hs : a.eval s = v) (hown : WOwn w base v l) (u : Value) (m : List WantB) (hx : a.eval x = u) (hsrc : WSrc w u m) (hlen : l.length + m.length ≤ 1000000) (hbase : base ≤ w.heap.size)
    (h : ∀ v' w', Hid (WOwn w' base v' (l ++ m)) → Hid (∀ w0, Below base w0 w → Below base w0 w') → K (a.put o.dst v') w') :
    if Region.wanted o (yielded ops a.tmps) = true then Oper.wp Tryz.prog o a w K Q else E := by
  have hw : Region.wanted o (yielded ops a.tmps) = true := by simp [Region.wanted, hgd]
  rw [if_pos hw]
  obtain ⟨i0, hi0, hz0, hz1, hz2⟩ := info_parts Tryz.infoWant
  rcases hsrc with ⟨rfl, rfl⟩ | ⟨ad, c, rfl, hcell⟩
  · have hrun := run_append_owned_none (P := Tryz.prog) (w := w) base 79 o.type 60 i0 5 Tryz.underlying79 hi0 v l.length _ hown
    unfold Oper.wp
    simp [execOp, ho, resolve, invoke, builtin, hs, hx, hrun, Result.andThen]
    refine h _ _ ?_ (fun _ hb => hb)
    show WOwn _ _ _ _
    rw [List.append_nil]; exact hown
  · refine wp_append_own w s x 79 ho base 60 i0 (.agg #[.string ⟨#[]⟩, .string ⟨#[]⟩, .string ⟨#[]⟩, .int .i64 0, .int .i64 0]) 5 64 Tryz.underlying79 hi0 hz0 hz1 hz2 rfl (by decide) v l.length _ hs hown ad m.length c (m.flatMap encW) hx (flatMap_len _ 5 (fun _ => rfl) m) ?c1 ?c2 ?c3 ?c4 hbase ?_
    case c1 =>
      intro j u hj
      have hjl : j < (m.flatMap encW).length := (List.getElem?_eq_some_iff.1 hj).1
      rw [flatMap_len encW 5 (fun _ => rfl)] at hjl
      have hi : j / 5 < m.length := by omega
      obtain ⟨b, off, rfl, q0, q1, q2, q3, q4⟩ := hcell (j / 5) hi
      rw [show j = j / 5 * 5 + j % 5 by omega, flatMap_at encW 5 (fun _ => rfl) m (j / 5) (j % 5) hi (by omega)] at hj
      have hm : j % 5 = 0 ∨ j % 5 = 1 ∨ j % 5 = 2 ∨ j % 5 = 3 ∨ j % 5 = 4 := by omega
      show w.cell? (Addr.add ⟨b, off, none⟩ j) = some u
      rw [Addr.add_lit]
      rcases hm with hm | hm | hm | hm | hm
      · rw [hm] at hj
        have : u = .string m[j / 5].name := by simpa using hj.symm
        rw [this, ← q0]; congr 2; omega
      · rw [hm] at hj
        have : u = .string m[j / 5].url := by simpa using hj.symm
        rw [this, ← q1]; congr 2; omega
      · rw [hm] at hj
        have : u = .string m[j / 5].kind := by simpa using hj.symm
        rw [this, ← q2]; congr 2; omega
      · rw [hm] at hj
        have : u = .int .i64 m[j / 5].strip := by simpa using hj.symm
        rw [this, ← q3]; congr 2; omega
      · rw [hm] at hj
        have : u = .int .i64 m[j / 5].sum := by simpa using hj.symm
        rw [this, ← q4]; congr 2; omega
    case c2 =>
      intro u hu
      obtain ⟨f, _, hf⟩ := List.mem_flatMap.1 hu
      simp at hf
      rcases hf with rfl | rfl | rfl | rfl | rfl <;> rfl
    case c3 => rw [maxLen_eq]; omega
    case c4 => omega
    intro v' w' hown' hgrow _
    refine h v' w' ?_ (fun w0 hb => hb.grown hgrow hbase (fun q hq => (World.ownsRow.lt hown q hq).1))
    show World.ownsRow _ _ _ _ _ _ _
    rw [List.length_append, List.flatMap_append]; exact hown'


/-- What the reference's SetWant and DropWant hand back. -/
def RSetPost (r : Er × List WantB) (w : World) (e : Ending) (w' : World) : Prop := (∃ v, e = .returned (.tuple #[v, .agg (erA r.1)]) ∧ Hid (WOwn w' w.heap.size v r.2)) ∧ Below w.heap.size w w'
theorem RSetPost.fault {r : Er × List WantB} {w w' : World} {v : Value} {c : Nat} {a : Int} (hc : r.1.code = c) (ha : r.1.at?.getD (-1) = a) (h : WOwn w' w.heap.size v r.2) (hb : Below w.heap.size w w') : RSetPost r w (.returned (.tuple #[v, .agg #[.int .i64 c, .int .i64 a]])) w' :=
  ⟨⟨v, by unfold erA; rw [hc, ha], h⟩, hb⟩
theorem wown_fault {w : World} {B g : Nat} {v : Value} {l : List WantB} (h : WOwn w B v l) (hg : g < B) (x y : Value) : WOwn ((w.setCell ⟨g, 0, none⟩ x).setCell ⟨g, 1, none⟩ y) B v l :=
  WOwn.store (WOwn.store h (fun q hq e => by have := (World.ownsRow.lt h q hq).1; omega) _) (fun q hq e => by have := (World.ownsRow.lt h q hq).1; omega) _
/-- The wants from a place on: as an operation gives them. -/
theorem wants_behind (b off n cap k : Nat) (hk : k ≤ n) (hs : n ≤ cap) : ∃ rv, (∀ W : World, (Instr.slice 79 (.slice (some ⟨b, off, none⟩) n cap) (some (.int .i64 (k : Int))) none none).run Tryz.prog W = .ok rv W) ∧ ∀ (W : World) (l : List WantB), WSrc W (.slice (some ⟨b, off, none⟩) n cap) l → l.length = n → WSrc W rv (l.drop k) := by
  refine ⟨.slice (if cap = k then some ⟨b, off, none⟩ else some ⟨b, off + k * 5, none⟩) (n - k) (cap - k), fun W => ?_, fun W l h hl => h.dropS hl hs hk⟩
  rw [run_slice_l W 79 (some ⟨b, off, none⟩) n cap (by kernel_rfl) .i64 (k : Int) (by omega) (by omega)]
  by_cases h : cap = k <;> simp [sliced, go_sem, h]

set_option maxHeartbeats 4000000 in
set_option maxRecDepth 100000 in
theorem refDropWant_any (v : Value) (l : List WantB) (p : ByteArray) (w : World) (hv : WArg w v l) (hl : l.length ≤ 10000) (hS : ∀ f ∈ l, SmallW f) :
    Calls Tryz.prog 103 #[v, .string p] w (RSetPost (dropLk l p) w) := by
  have HS := Lib.hid hS
  have HV := Lib.hid hv
  obtain ⟨⟨ao, cap, rfl, h1, h2, _⟩, _⟩ := hv
  clear hS
  obtain ⟨g, hg⟩ : ∃ g, w.heap.size = g := ⟨_, rfl⟩
  obtain ⟨wg, hwg⟩ : ∃ wg, w.alloc (.cells #[.int .i64 0, .int .i64 0] 38) = wg := ⟨_, rfl⟩
  have hal : Below w.heap.size w wg := by rw [← hwg]; exact (Below.refl _ _).alloc (Nat.le_refl _) _
  have FG := Lib.hid (show FaultAt wg g 0 0 by rw [← hwg, ← hg]; exact FaultAt.new w 0 0)
  have hgw : w.heap.size ≤ g := Nat.le_of_eq hg
  have BG := Lib.hid hal
  have HWG := Lib.hid hwg
  have HG := Lib.hid hg
  have C := Lib.hid (refLockFault_any _ l wg (HV.out.1.ext hal) (by omega) HS.out)
  clear hal hwg hg
  go_enter Tryz.func103, Tryz.ntmps103
  go_wp2_with fail
  rw [HWG.out, HG.out]
  refine C.out.mono ?_
  clear C
  rintro e w1 ⟨rfl, hb1⟩
  have F1 := Lib.hid (FG.out.ext hb1)
  have B1 := Lib.hid (BG.out.trans (hb1.mono BG.out.size))
  obtain ⟨c, hc⟩ : ∃ c, (lockEr l).code = c := ⟨_, rfl⟩
  obtain ⟨a, ha⟩ : ∃ a : Int, (lockEr l).at?.getD (-1) = a := ⟨_, rfl⟩
  have HC := Lib.hid hc
  have HA := Lib.hid ha
  rw [show erA (lockEr l) = #[.int .i64 c, .int .i64 a] by unfold erA; rw [hc, ha]]
  obtain ⟨q, hq⟩ : ∃ q, w1.heap.size = q := ⟨_, rfl⟩
  obtain ⟨w2, hw2⟩ : ∃ w2, w1.alloc (.cells #[.int .i64 c, .int .i64 a] 38) = w2 := ⟨_, rfl⟩
  have hal2 : Below w1.heap.size w1 w2 := by rw [← hw2]; exact (Below.refl _ _).alloc (Nat.le_refl _) _
  have FQ := Lib.hid (show FaultAt w2 q c a by rw [← hw2, ← hq]; exact FaultAt.new w1 _ _)
  have F2 := Lib.hid (F1.out.ext hal2)
  have B2 := Lib.hid (B1.out.trans (hal2.mono B1.out.size))
  have HW2 := Lib.hid hw2
  have HQ := Lib.hid hq
  have hqw : w.heap.size ≤ q := by rw [← HQ.out]; exact Nat.le_trans hgw (Nat.le_of_lt F1.out.lt)
  have hgq : g ≠ q := by have := F1.out.lt; omega
  have hgw2 : g < w2.heap.size := F2.out.lt
  have hqw2 : q < w2.heap.size := FQ.out.lt
  clear hb1 hc ha hal2 hw2 hq FG BG F1 B1
  obtain ⟨x0, x1, _, _⟩ := FQ.out.cells
  obtain ⟨y0, y1, y2, y3⟩ := F2.out.cells
  go_upto_region 2 with fail
  rw [HW2.out, HQ.out]
  by_cases hz : c = 0
  rotate_left
  · have hpos : (0 : Int) < (c : Int) := by omega
    have HY : Hid (dropLk l p = (lockEr l, [])) := by show _ = _; unfold dropLk; rw [if_pos (by rw [HC.out]; exact hz)]
    clear hz
    go_wp2_with fail
    go_region
    all_goals go_wp2_with fail
    obtain ⟨s0, s1, s2⟩ := fault_end F2.out c a w.heap.size hgw
    rw [HY.out]
    refine bodyPost_ret (v := .tuple #[.slice none 0 0, .agg #[.int .i64 c, .int .i64 a]]) ?_ rfl (RSetPost.fault HC.out HA.out (WOwn.nil _ _) ((B2.out.trans s2).drew))
    have s0' := s0; have s1' := s1
    simp [results, Tryz.results103, go_sem, s0', s1']
  subst hz
  have HD := Lib.hid (dropLk_from p (HC.out))
  have HAN : Hid (a = -1) := by show _ = _; rw [← HA.out, (lockOk_iff l).1 HC.out |>.er]; rfl
  have C := Lib.hid (refFindWant_any _ l p w2 (HV.out.ext B2.out).1 (by omega))
  go_wp2_with fail
  refine C.out.mono ?_
  clear C x0 x1 y0 y1 y2 y3
  rintro e w3 ⟨rfl, hb3⟩
  have F3 := Lib.hid (F2.out.ext hb3)
  have FQ3 := Lib.hid (FQ.out.ext hb3)
  have B3 := Lib.hid (B2.out.trans (hb3.mono B2.out.size))
  have hg3 : g < w3.heap.size := F3.out.lt
  have hq3 : q < w3.heap.size := FQ3.out.lt
  clear F2 FQ B2 hb3
  cases hf : findW p l with
  | none =>
    have HY : Hid (dropLk l p = (⟨6, none⟩, [])) := by show _ = _; rw [HD.out, hf]
    rw [show findI none = -1 from rfl]
    have C := Lib.hid (refBare_any 6 w3)
    clear hf HD
    go_wp2_with fail
    refine C.out.mono ?_
    clear C
    rintro e w4 ⟨rfl, hb4⟩
    have F4 := Lib.hid (F3.out.ext hb4)
    have B4 := Lib.hid (B3.out.trans (hb4.mono B3.out.size))
    obtain ⟨y0, y1, y2, y3⟩ := F4.out.cells
    go_wp2_with fail
    obtain ⟨s0, s1, s2⟩ := fault_end F4.out 6 (-1) w.heap.size hgw
    rw [HY.out]
    refine bodyPost_ret (v := .tuple #[.slice none 0 0, .agg #[.int .i64 6, .int .i64 (-1)]]) ?_ rfl (RSetPost.fault (c := 6) rfl rfl (WOwn.nil _ _) (B4.out.trans s2))
    simp [results, Tryz.results103, go_sem, s0, s1]
  | some k =>
    have hk := (findW_some hf).1
    have HY : Hid (dropLk l p = (⟨0, none⟩, l.take k ++ l.drop (k + 1))) := by show _ = _; rw [HD.out, hf]; simp only; rw [List.eraseIdx_eq_take_drop_succ]
    rw [show findI (some k) = (k : Int) from rfl]
    have hk0 : ¬ (k : Int) < 0 := by omega
    obtain ⟨b, off, rfl, _⟩ := HV.out.1.at hk
    have HSRC := Lib.hid (HV.out.ext B3.out).src
    have SRCt := Lib.hid (HSRC.out.take0 rfl (Nat.le_of_lt hk))
    obtain ⟨rv, hrv, hrs⟩ := wants_behind b off l.length cap (k + 1) (by omega) h1
    have hrv2 : ∀ W : World, (Instr.slice 79 (.slice (some ⟨b, off, none⟩) l.length cap) (some (.int .i64 ((k : Int) + 1))) none none).run Tryz.prog W = .ok rv W := hrv
    have HRS := Lib.hid (fun W hW => hrs W l hW rfl)
    clear hf HD hrv hrs
    obtain ⟨tk, htk⟩ : ∃ tk, l.take k = tk := ⟨_, rfl⟩
    obtain ⟨rs, hrs⟩ : ∃ rs, l.drop (k + 1) = rs := ⟨_, rfl⟩
    have htl : tk.length ≤ 10000 := by rw [← htk, List.length_take]; omega
    have hrl : rs.length ≤ 10000 := by rw [← hrs, List.length_drop]; omega
    rw [htk] at SRCt
    rw [htk, hrs] at HY
    rw [hrs] at HRS
    clear htk hrs
    go_wp2_with (at_builtin; refine wpList_append_wants rfl _ _ rfl w3.heap.size (.slice none 0 0) [] rfl (WOwn.nil _ _) _ tk rfl SRCt.out (by simp; omega) (Nat.le_refl _) ?_)
    intro ov6 w6 HO6' HB6'
    have HO6 : Hid (WOwn w6 w3.heap.size ov6 tk) := HO6'.out
    have HB6 := Lib.hid (HB6'.out w3 (Below.refl _ _))
    clear HO6' HB6' SRCt HSRC
    have B6 := Lib.hid (B3.out.trans (HB6.out.mono B3.out.size))
    have F6 := Lib.hid (F3.out.ext HB6.out)
    have FQ6 := Lib.hid (FQ3.out.ext HB6.out)
    obtain ⟨o6, c6, rfl⟩ := HO6.out.shape
    obtain ⟨x0, x1, _, _⟩ := FQ6.out.cells
    obtain ⟨y0, y1, y2, y3⟩ := F6.out.cells
    have hd6 : Below w6.heap.size w6 w6.drew := below_drewN _ w6 1
    have HS6 := Lib.hid (HRS.out w6.drew ((HV.out.ext (B6.out.trans (hd6.mono B6.out.size))).src))
    have HOd := Lib.hid (HO6.out.ext hd6)
    have HBd := Lib.hid (HB6.out.trans (hd6.mono HB6.out.size))
    have hbd : w3.heap.size ≤ w6.drew.heap.size := HB6.out.size
    have hwr : IntKind.i64.wrap ((k : Int) + 1) = (k : Int) + 1 := IntWalk.i64_in _ (by omega)
    clear HRS hd6 F6 FQ6 B6
    go_wp2_with fail
    go_region_law ((refine step_append_wants rfl _ _ rfl w3.heap.size (.slice o6 tk.length c6) tk rfl HOd.out rv rs rfl HS6.out (by omega) hbd ?_); (intro v7 w7 HO7' HB7'); (have HO7 : Hid (WOwn w7 w3.heap.size v7 (tk ++ rs)) := HO7'.out); (have HB7 := Lib.hid (HB7'.out w3 HBd.out)); clear HO7' HB7'; (obtain ⟨p0, p1, _, _⟩ := (FQ3.out.ext HB7.out).cells); (obtain ⟨r0, r1, r2, r3⟩ := (F3.out.ext HB7.out).cells))
    all_goals
      obtain ⟨s0, s1, s2⟩ := fault_end (F3.out.ext HB7.out) 0 a w.heap.size hgw
      have BZ := Lib.hid ((B3.out.trans (HB7.out.mono B3.out.size)).trans s2)
      have HOZ := Lib.hid (WOwn.low (wown_fault HO7.out hg3 (.int .i64 0) (.int .i64 a)) B3.out.size)
      clear p0 p1 r0 r1 r2 r3 s2 hrv2 hwr
      go_wp2_with fail
      rw [HY.out]
      refine bodyPost_ret (v := .tuple #[v7, .agg #[.int .i64 0, .int .i64 a]]) ?_ rfl (RSetPost.fault (c := 0) rfl (by show (-1 : Int) = a; exact HAN.out.symm) HOZ.out BZ.out)
      simp [results, Tryz.results103, go_sem, s0, s1]
end Go.Proofs.YtcjjbpoaojjojaaGreatDoor

namespace Go.Proofs.YtcjjbpoaojjojaaGreatDoor
open Go Go.RowKit

/-- A row's part, as an operation gives it: from a place on. -/
theorem wants_from (ao : Option Addr) (n cap k : Nat) (hk : k ≤ n) (hs : n ≤ cap) : ∃ rv, (∀ W : World, (Instr.slice 79 (.slice ao n cap) (some (.int .i64 (k : Int))) none none).run Tryz.prog W = .ok rv W) ∧ ∀ (W : World) (l : List WantB), WSrc W (.slice ao n cap) l → l.length = n → WSrc W rv (l.drop k) := by
  refine ⟨.slice (if cap = k then ao else ao.map (·.add (k * 5))) (n - k) (cap - k), fun W => ?_, fun W l h hl => h.drop0 hl hs hk⟩
  rw [run_slice_l W 79 ao n cap (by kernel_rfl) .i64 (k : Int) (by omega) (by omega)]
  by_cases h : cap = k <;> simp [sliced, go_sem, h]
/-- A row's first ones. -/
theorem wants_first (ao : Option Addr) (n cap k : Nat) (hk : k ≤ n) (hs : n ≤ cap) : ∃ rv, (∀ W : World, (Instr.slice 79 (.slice ao n cap) none (some (.int .i64 (k : Int))) none).run Tryz.prog W = .ok rv W) ∧ ∀ (W : World) (l : List WantB), WSrc W (.slice ao n cap) l → l.length = n → WSrc W rv (l.take k) := by
  refine ⟨.slice (if cap = 0 then ao else ao.map (·.add (0 * 5))) (k - 0) (cap - 0), fun W => ?_, fun W l h hl => ?_⟩
  · rw [run_slice_h W 79 ao n cap (by kernel_rfl) .i64 (k : Int) (by omega) (by omega)]
    by_cases h : cap = 0 <;> simp [sliced, go_sem, h]
  · have h2 := (h.drop0 (k := 0) hl hs (Nat.zero_le _)).take0 (k := k) (by rw [List.drop_zero]; exact hl) (by omega)
    rw [List.drop_zero] at h2
    exact h2
theorem wless (f g : WantB) : Op.bytesLess f.name.toList g.name.toList = decide (wLt f g) := by rw [less_eq, toList_bl, toList_bl]; rfl
theorem place_at {l : List WantB} {x : WantB} {k : Nat} (hk : k ≤ l.length) (h1 : ∀ j, (h : j < l.length) → j < k → wLt l[j] x) (h2 : ∀ h : k < l.length, ¬ wLt l[k] x) : placeW l x = k := by
  unfold placeW
  have e : l.takeWhile (fun g => decide (wLt g x)) = l.take k := by
    conv => lhs; rw [← List.take_append_drop k l]
    rw [List.takeWhile_append_of_pos]
    · by_cases hlt : k < l.length
      · rw [List.drop_eq_getElem_cons hlt, List.takeWhile_cons, decide_eq_false (h2 hlt)]; simp
      · rw [List.drop_of_length_le (by omega)]; simp
    · intro y hy
      obtain ⟨j, hj, rfl⟩ := List.getElem_of_mem hy
      rw [List.length_take] at hj
      rw [List.getElem_take]
      exact decide_eq_true (h1 j (by omega) (by omega))
  rw [e, List.length_take, Nat.min_eq_left hk]
theorem found_lt {l : List WantB} {x : WantB} (hl : l.Pairwise wLt) (h : (findW x.name l).isSome = true) : placeW l x < l.length := by
  have h0 := found_iff (w := x) hl
  rw [h] at h0
  have h1 := of_decide_eq_true h0
  rcases Nat.lt_or_ge (placeW l x) l.length with h | h
  · exact h
  · rw [List.drop_eq_nil_of_le h] at h1; cases h1
theorem WBox.pair {w : World} {p q : Nat} {x : WantB} (h : WBox w p x) (hne : p ≠ q) (a b : Value) : WBox ((w.setCell ⟨q, 0, none⟩ a).setCell ⟨q, 1, none⟩ b) p x := (store_block w q a b p hne).trans h

set_option maxHeartbeats 4000000 in
set_option maxRecDepth 100000 in
theorem refSetWant_any (v : Value) (l : List WantB) (x : WantB) (w : World) (hv : WArg w v l) (hl : l.length ≤ 10000) (hS : ∀ f ∈ l, SmallW f) (hx : SmallW x) :
    Calls Tryz.prog 102 #[v, .agg #[.string x.name, .string x.url, .string x.kind, .int .i64 x.strip, .int .i64 x.sum]] w (RSetPost (setLk l x) w) := by
  have HS := Lib.hid hS
  have HV := Lib.hid hv
  obtain ⟨⟨ao, cap, rfl, h1, h2, _⟩, _⟩ := hv
  have sx0 := hx.1
  have sx1 := hx.2.1
  clear hS hx
  obtain ⟨px, hpx⟩ : ∃ px, w.heap.size = px := ⟨_, rfl⟩
  obtain ⟨wx, hwx⟩ : ∃ wx, w.alloc (.cells #[.string x.name, .string x.url, .string x.kind, .int .i64 x.strip, .int .i64 x.sum] 60) = wx := ⟨_, rfl⟩
  have hwxs : wx.heap.size = px + 1 := by rw [← hwx, ← hpx]; simp
  have halx : Below w.heap.size w wx := by rw [← hwx]; exact (Below.refl _ _).alloc (Nat.le_refl _) _
  have BX0 := Lib.hid (show WBox wx px x by rw [← hwx, ← hpx]; exact WBox.new w x)
  obtain ⟨g, hg⟩ : ∃ g, px + 1 = g := ⟨_, rfl⟩
  obtain ⟨wg, hwg⟩ : ∃ wg, wx.alloc (.cells #[.int .i64 0, .int .i64 0] 38) = wg := ⟨_, rfl⟩
  have hal : Below w.heap.size w wg := by rw [← hwg]; exact halx.alloc halx.size _
  have FG := Lib.hid (show FaultAt wg g 0 0 by rw [← hwg, ← hg, ← hwxs]; exact FaultAt.new wx 0 0)
  have BXg := Lib.hid (BX0.out.ext (show Below wx.heap.size wx wg by rw [← hwg]; exact (Below.refl _ _).alloc (Nat.le_refl _) _))
  have hgw : w.heap.size ≤ g := by omega
  have hpg : px < g := by omega
  have BG := Lib.hid hal
  have HWG := Lib.hid hwg
  have HG := Lib.hid hg
  have HWX := Lib.hid hwx
  have HPX := Lib.hid hpx
  have C := Lib.hid (refLockFault_any _ l wg (HV.out.1.ext hal) (by omega) HS.out)
  clear hal hwg hg hpx hwx hwxs halx BX0
  go_enter Tryz.func102, Tryz.ntmps102
  go_wp2_with fail
  rw [HWX.out, HPX.out, HWG.out, HG.out]
  refine C.out.mono ?_
  clear C
  rintro e w1 ⟨rfl, hb1⟩
  have F1 := Lib.hid (FG.out.ext hb1)
  have BX1 := Lib.hid (BXg.out.ext hb1)
  have B1 := Lib.hid (BG.out.trans (hb1.mono BG.out.size))
  obtain ⟨c, hc⟩ : ∃ c, (lockEr l).code = c := ⟨_, rfl⟩
  obtain ⟨a, ha⟩ : ∃ a : Int, (lockEr l).at?.getD (-1) = a := ⟨_, rfl⟩
  have HC := Lib.hid hc
  have HA := Lib.hid ha
  rw [show erA (lockEr l) = #[.int .i64 c, .int .i64 a] by unfold erA; rw [hc, ha]]
  obtain ⟨q, hq⟩ : ∃ q, w1.heap.size = q := ⟨_, rfl⟩
  obtain ⟨w2, hw2⟩ : ∃ w2, w1.alloc (.cells #[.int .i64 c, .int .i64 a] 38) = w2 := ⟨_, rfl⟩
  have hal2 : Below w1.heap.size w1 w2 := by rw [← hw2]; exact (Below.refl _ _).alloc (Nat.le_refl _) _
  have FQ := Lib.hid (show FaultAt w2 q c a by rw [← hw2, ← hq]; exact FaultAt.new w1 _ _)
  have F2 := Lib.hid (F1.out.ext hal2)
  have BX2 := Lib.hid (BX1.out.ext hal2)
  have B2 := Lib.hid (B1.out.trans (hal2.mono B1.out.size))
  have HW2 := Lib.hid hw2
  have HQ := Lib.hid hq
  have hqw : w.heap.size ≤ q := by rw [← HQ.out]; exact Nat.le_trans hgw (Nat.le_of_lt F1.out.lt)
  have hgq : g ≠ q := by have := F1.out.lt; omega
  have hpq : px ≠ q := by have := BX1.out.lt; omega
  clear hb1 hc ha hal2 hw2 hq FG BG F1 B1 BXg BX1
  obtain ⟨x0, x1, x2, x3⟩ := FQ.out.cells
  obtain ⟨y0, y1, y2, y3⟩ := F2.out.cells
  go_upto_region 2 with fail
  rw [HW2.out, HQ.out]
  by_cases hz : c = 0
  rotate_left
  · have hpos : (0 : Int) < (c : Int) := by omega
    have e0 : ((c : Int) == 0) = false := by rw [beq_eq_false_iff_ne]; omega
    have HY : Hid (setLk l x = (lockEr l, [])) := by show _ = _; unfold setLk; rw [if_pos (by rw [HC.out]; exact hz)]
    clear hz
    go_wp2_with fail
    go_region
    all_goals go_wp2_with fail
    obtain ⟨s0, s1, s2⟩ := fault_end F2.out c a w.heap.size hgw
    rw [HY.out]
    refine bodyPost_ret (v := .tuple #[.slice none 0 0, .agg #[.int .i64 c, .int .i64 a]]) ?_ rfl (RSetPost.fault HC.out HA.out (WOwn.nil _ _) ((B2.out.trans s2).drew))
    have s0' := s0; have s1' := s1
    simp [results, Tryz.results102, go_sem, s0', s1']
  subst hz
  have OK := Lib.hid ((lockOk_iff l).1 HC.out)
  have hl20 := OK.out.few
  obtain ⟨b0, b1, b2, b3, b4⟩ := BX2.out.cells
  have C := Lib.hid (refWantError_any x w2 (by omega) (by omega))
  go_wp2_with fail
  refine C.out.mono ?_
  clear C x0 x1 x2 x3 y0 y1 y2 y3 b0 b1 b2 b3 b4
  rintro e w3 ⟨rfl, hb3⟩
  obtain ⟨c3, hc3⟩ : ∃ c, wantE x = c := ⟨_, rfl⟩
  rw [hc3]
  have HC3 := Lib.hid hc3
  have C := Lib.hid (refBare_any c3 w3)
  clear hc3
  go_wp2_with fail
  refine C.out.mono ?_
  clear C
  rintro e w4 ⟨rfl, hb4⟩
  have hb24 := hb3.trans (hb4.mono hb3.size)
  have F4 := Lib.hid (F2.out.ext hb24)
  have FQ4 := Lib.hid (FQ.out.ext hb24)
  have BX4 := Lib.hid (BX2.out.ext hb24)
  have B4 := Lib.hid (B2.out.trans (hb24.mono B2.out.size))
  clear hb3 hb4 hb24 F2 FQ BX2 B2
  obtain ⟨w5, hw5⟩ : ∃ w5, (w4.setCell ⟨q, 0, none⟩ (.int .i64 c3)).setCell ⟨q, 1, none⟩ (.int .i64 (-1)) = w5 := ⟨_, rfl⟩
  have FQ5 : Hid (FaultAt w5 q c3 (-1)) := by show FaultAt _ _ _ _; rw [← hw5]; exact FQ4.out.store _ _
  have F5 : Hid (FaultAt w5 g 0 0) := by show FaultAt _ _ _ _; rw [← hw5]; exact F4.out.other hgq _ _
  have B5 : Hid (Below w.heap.size w w5) := by show Below _ _ _; rw [← hw5]; exact below_pair B4.out hqw _ _
  have BX5 : Hid (WBox w5 px x) := by show WBox _ _ _; rw [← hw5]; exact BX4.out.pair hpq _ _
  have HW5 := Lib.hid hw5
  clear hw5
  obtain ⟨t0, t1, t2, t3⟩ := FQ4.out.cells
  obtain ⟨x0, x1, x2, x3⟩ := FQ5.out.cells
  obtain ⟨y0, y1, y2, y3⟩ := F5.out.cells
  go_upto_region 4 with fail
  rw [HW5.out]
  clear t0 t1 t2 t3 FQ4 F4 B4 BX4
  by_cases hz : c3 = 0
  rotate_left
  · have hpos : (0 : Int) < (c3 : Int) := by omega
    have HY : Hid (setLk l x = (⟨c3, none⟩, [])) := by show _ = _; unfold setLk; rw [if_neg (by rw [HC.out]; decide), if_pos (by rw [HC3.out]; exact hz), HC3.out]
    clear hz
    go_wp2_with fail
    go_region
    all_goals go_wp2_with fail
    obtain ⟨s0, s1, s2⟩ := fault_end F5.out c3 (-1) w.heap.size hgw
    rw [HY.out]
    refine bodyPost_ret (v := .tuple #[.slice none 0 0, .agg #[.int .i64 c3, .int .i64 (-1)]]) ?_ rfl (RSetPost.fault (c := c3) rfl rfl (WOwn.nil _ _) ((B5.out.trans s2).drew))
    have s0' := s0; have s1' := s1
    simp [results, Tryz.results102, go_sem, s0', s1']
  subst hz
  have HD := Lib.hid (setLk_from HC.out HC3.out)
  go_wp2_with fail
  clear x0 x1 x2 x3 y0 y1 y2 y3
  go_loopw [7] (fun i wr => ∃ k : Nat, k ≤ l.length ∧ i = .int .i64 k ∧ Hid (∀ j, (h : j < l.length) → j < k → wLt l[j] x) ∧ Hid (Below w5.heap.size w5 wr)) (fun i _ => l.length - (intOf i).toNat)
  case atStart => exact ⟨0, Nat.zero_le _, rfl, (fun j _ h => absurd h (Nat.not_lt_zero _)), Below.refl _ _⟩
  case round =>
    obtain ⟨k, hk, rfl, HJ, Bq⟩ := hrel
    have hcap : k ≤ l.length := hk
    by_cases hp : ∃ h : k < l.length, wLt l[k] x
    · obtain ⟨hlt, hp⟩ := hp
      obtain ⟨b, off, rfl, hcell⟩ := HV.out.1.at hlt
      have q0 := (hcell wr (B5.out.trans (Bq.out.mono B5.out.size))).1
      obtain ⟨xb, _, _, _, _⟩ := (BX5.out.ext Bq.out).cells
      have e0 : Op.bytesLess l[k].name.toList x.name.toList = true := by rw [wless]; exact decide_eq_true hp
      have HJ2 : Hid (∀ j, (h : j < l.length) → j < k + 1 → wLt l[j] x) := fun j h hj => by
        by_cases e : j = k
        · subst e; exact hp
        · exact HJ.out j h (by omega)
      have hlI : (k : Int) < (l.length : Int) := by omega
      clear hcell hp HJ
      generalize l[k] = f at q0 e0
      go_wp2_with fail
      go_quiet (fail)
      go_wp2_with fail
      go_roundw
      case rel => exact ⟨k + 1, by omega, by go_num, HJ2, Bq.out.trans ((below_drewN _ _ _).mono Bq.out.size)⟩
      case measure => simp [intOf]; omega
    · have HPL : Hid (placeW l x = k) := place_at hk HJ.out (fun h h' => hp ⟨h, h'⟩)
      have HNE : Hid (∀ h : k < l.length, ¬ wLt l[k] x) := fun h h' => hp ⟨h, h'⟩
      have BXe := Lib.hid (BX5.out.ext Bq.out)
      have Bwe := Lib.hid (B5.out.trans (Bq.out.mono B5.out.size))
      have Fe := Lib.hid (F5.out.ext Bq.out)
      have FQe := Lib.hid (FQ5.out.ext Bq.out)
      have hge : g < wr.heap.size := Fe.out.lt
      obtain ⟨xb, _, _, _, _⟩ := BXe.out.cells
      obtain ⟨rv, hrv, hrs⟩ := wants_from ao l.length cap k hk h1
      obtain ⟨tv, htv, hts⟩ := wants_first ao l.length cap k hk h1
      have HRS := Lib.hid (fun W hW => hrs W l hW rfl)
      have HTS := Lib.hid (fun W hW => hts W l hW rfl)
      have C := Lib.hid (fun W (hW : Below w.heap.size w W) => refFindWant_any _ l x.name W (HV.out.ext hW).1 (by omega))
      clear hrs hts
      have HRZ0 : Hid (∃ rz, (k + 1 ≤ l.length → ∀ W : World, (Instr.slice 79 (.slice ao l.length cap) (some (.int .i64 ((k : Int) + 1))) none none).run Tryz.prog W = .ok rz W) ∧ (k + 1 ≤ l.length → ∀ W, WSrc W (.slice ao l.length cap) l → WSrc W rz (l.drop (k + 1)))) := by
        by_cases h : k + 1 ≤ l.length
        · obtain ⟨rz, h3, h4⟩ := wants_from ao l.length cap (k + 1) h h1
          exact ⟨rz, fun _ => h3, fun _ W hW => h4 W l hW rfl⟩
        · exact ⟨.nilIface, fun h' => absurd h' h, fun h' => absurd h' h⟩
      have hkl : k < l.length ∨ ¬ k < l.length := by omega
      rcases hkl with hlt | hlt
      case' inl =>
        obtain ⟨b, off, rfl, hcell⟩ := HV.out.1.at hlt
        have q0 := (hcell wr Bwe.out).1
        have e0 : Op.bytesLess l[k].name.toList x.name.toList = false := by rw [wless]; exact decide_eq_false (HNE.out hlt)
        have hlI : (k : Int) < (l.length : Int) := by omega
        clear hcell HNE
        generalize l[k] = f at q0 e0
      case' inr =>
        have q0 : ¬ k < l.length := by omega
        have e0 : ¬ (k : Int) < (l.length : Int) := by omega
        have hlI : k ≤ l.length := hk
        clear HNE
      all_goals
        go_wp2_with fail
        go_quiet (fail)
        go_wp2_with fail
        clear q0 e0 hlI xb
        obtain ⟨wm, hwm⟩ : ∃ wm, wr.drewN nq = wm := ⟨_, rfl⟩
        have hd : Below wr.heap.size wr wm := by rw [← hwm]; exact below_drewN _ _ _
        rw [hwm]
        refine (C.out wm (Bwe.out.trans (hd.mono Bwe.out.size))).mono ?_
        rintro e w6 ⟨rfl, hb6⟩
        have hb16 := hd.trans (hb6.mono hd.size)
        have BX6 := Lib.hid (BXe.out.ext hb16)
        have B6 := Lib.hid (Bwe.out.trans (hb16.mono Bwe.out.size))
        have F6 := Lib.hid (Fe.out.ext hb16)
        have FQ6 := Lib.hid (FQe.out.ext hb16)
        clear C hd hwm hb6 hb16 BXe Bwe Fe FQe BX5 B5 F5 FQ5 Bq
        rcases hf : findW x.name l with _ | j
        case' some =>
          have hfs : (findW x.name l).isSome = true := by rw [hf]; rfl
          have hk1 : k < l.length := by rw [← HPL.out]; exact found_lt OK.out.strict hfs
          have HY : Hid (setLk l x = (⟨0, none⟩, l.take k ++ x :: l.drop (k + 1))) := by show _ = _; rw [HD.out, if_pos hfs, HPL.out]
          rw [show findI (some j) = (j : Int) from rfl]
          have hj0 : (0 : Int) ≤ (j : Int) := by omega
          obtain ⟨rz, hrz, hrs⟩ := HRZ0.out
          have hrz2 := hrz hk1
          have HRZ := Lib.hid (hrs hk1)
          obtain ⟨rs, hrs2⟩ : ∃ rs, l.drop (k + 1) = rs := ⟨_, rfl⟩
          have hrl : rs.length ≤ 10000 := by rw [← hrs2, List.length_drop]; omega
          rw [hrs2] at HY HRZ
          clear hf hfs hrs hrs2 hrv hrz hk1 HRS HRZ0
        case' none =>
          have hfs : ¬ (findW x.name l).isSome = true := by rw [hf]; simp
          rw [show findI none = -1 from rfl]
          by_cases h20 : 20 ≤ l.length
          · have HY : Hid (setLk l x = (⟨8, none⟩, [])) := by show _ = _; rw [HD.out, if_neg hfs, if_pos h20]
            have hd20 : decide ((l.length : Int) ≥ 20) = true := decide_eq_true (by omega)
            have C := Lib.hid (refBare_any 8 w6)
            clear hf hfs HRS HRZ0 hrv
            go_wp2_with fail
            refine C.out.mono ?_
            clear C
            rintro e w7 ⟨rfl, hb7⟩
            have F7 := Lib.hid (F6.out.ext hb7)
            have B7 := Lib.hid (B6.out.trans (hb7.mono B6.out.size))
            obtain ⟨y0, y1, y2, y3⟩ := F7.out.cells
            go_wp2_with fail
            obtain ⟨s0, s1, s2⟩ := fault_end F7.out 8 (-1) w.heap.size hgw
            rw [HY.out]
            refine bodyPost_ret (v := .tuple #[.slice none 0 0, .agg #[.int .i64 8, .int .i64 (-1)]]) ?_ rfl (RSetPost.fault (c := 8) rfl rfl (WOwn.nil _ _) (B7.out.trans s2))
            simp [results, Tryz.results102, go_sem, s0, s1]
          have HY : Hid (setLk l x = (⟨0, none⟩, l.take k ++ x :: l.drop k)) := by show _ = _; rw [HD.out, if_neg hfs, if_neg h20, HPL.out]
          have hd20 : decide ((l.length : Int) ≥ 20) = false := decide_eq_false (by omega)
          obtain ⟨rz, hrz⟩ : ∃ rz, rv = rz := ⟨_, rfl⟩
          have hrz2 : ∀ W : World, (Instr.slice 79 (.slice none 0 0) (some (.int .i64 0)) none none).run Tryz.prog W = (Instr.slice 79 (.slice none 0 0) (some (.int .i64 0)) none none).run Tryz.prog W := fun _ => rfl
          have HRZ := HRS
          rw [hrz] at HRZ ⊢
          obtain ⟨rs, hrs2⟩ : ∃ rs, l.drop k = rs := ⟨_, rfl⟩
          have hrl : rs.length ≤ 10000 := by rw [← hrs2, List.length_drop]; omega
          have hj0 : l.length ≤ 10000 := hl
          rw [hrs2] at HY HRZ
          clear hf hfs hrs2 hrv hrz hrz2 HRS HRZ0 h20
        all_goals
          obtain ⟨tk, htk⟩ : ∃ tk, l.take k = tk := ⟨_, rfl⟩
          have htl : tk.length ≤ 10000 := by rw [← htk, List.length_take]; omega
          rw [htk] at HY HTS
          have SRCt := Lib.hid (HTS.out w6 (HV.out.ext B6.out).src)
          have hg6 : g < w6.heap.size := F6.out.lt
          clear htk HTS
          go_wp2_with (at_builtin; refine wpList_append_wants rfl _ _ rfl w6.heap.size (.slice none 0 0) [] rfl (WOwn.nil _ _) _ tk rfl SRCt.out (by simp; omega) (Nat.le_refl _) ?_)
          intro ov7 w7 HO7' HB7'
          have HO7 : Hid (WOwn w7 w6.heap.size ov7 tk) := HO7'.out
          have HB7 := Lib.hid (HB7'.out w6 (Below.refl _ _))
          clear HO7' HB7' SRCt
          obtain ⟨o7, c7, rfl⟩ := HO7.out.shape
          obtain ⟨b0, b1, b2, b3, b4⟩ := (BX6.out.ext HB7.out).cells
          go_wp2_with (at_builtin; refine wpList_append_wants rfl _ _ rfl w6.heap.size (.slice o7 tk.length c7) tk rfl (HO7.out.ext ((Below.refl _ _).alloc (Nat.le_refl _) _)) _ [x] rfl (WSrc.one w7 x _) (by simp; omega) (Nat.le_trans HB7.out.size (by simp)) ?_)
          intro ov8 w8 HO8 HB8'
          have HB8 := Lib.hid (HB8'.out w6 (HB7.out.alloc HB7.out.size _))
          clear HB8' HO7 b0 b1 b2 b3 b4 HB7
          obtain ⟨tx, htx⟩ : ∃ tx, tk ++ [x] = tx := ⟨_, rfl⟩
          have htl2 : tx.length ≤ 10001 := by rw [← htx]; simp; omega
          have HY2 : Hid (setLk l x = (⟨0, none⟩, tx ++ rs)) := by show _ = _; rw [HY.out, ← htx]; simp
          rw [htx] at HO8
          clear htx HY
          obtain ⟨o8, c8, rfl⟩ := HO8.out.shape
          have hd8 : Below w8.heap.size w8 w8.drew := below_drewN _ w8 1
          have B8 := Lib.hid (B6.out.trans (HB8.out.mono B6.out.size))
          have HS8 := Lib.hid (HRZ.out w8.drew ((HV.out.ext (B8.out.trans (hd8.mono B8.out.size))).src))
          have HOd := Lib.hid (HO8.out.ext hd8)
          have HBd := Lib.hid (HB8.out.trans (hd8.mono HB8.out.size))
          have hbd : w6.heap.size ≤ w8.drew.heap.size := HB8.out.size
          obtain ⟨x0, x1, _, _⟩ := (FQ6.out.ext HB8.out).cells
          obtain ⟨y0, y1, y2, y3⟩ := (F6.out.ext HB8.out).cells
          clear HRZ hd8 HO8 HB8 B8
          go_wp2_with fail
          go_region_law ((refine step_append_wants rfl _ _ rfl w6.heap.size (.slice o8 tx.length c8) tx rfl HOd.out rz rs rfl HS8.out (by omega) hbd ?_); (intro v9 w9 HO9' HB9'); (have HO9 : Hid (WOwn w9 w6.heap.size v9 (tx ++ rs)) := HO9'.out); (have HB9 := Lib.hid (HB9'.out w6 HBd.out)); clear HO9' HB9'; (obtain ⟨p0, p1, _, _⟩ := (FQ6.out.ext HB9.out).cells); (obtain ⟨r0, r1, r2, r3⟩ := (F6.out.ext HB9.out).cells))
          all_goals
            obtain ⟨s0, s1, s2⟩ := fault_end (F6.out.ext HB9.out) 0 (-1) w.heap.size hgw
            have BZ := Lib.hid ((B6.out.trans (HB9.out.mono B6.out.size)).trans s2)
            have HOZ := Lib.hid (WOwn.low (wown_fault HO9.out hg6 (.int .i64 0) (.int .i64 (-1))) B6.out.size)
            clear p0 p1 r0 r1 r2 r3 s2 htv
            go_wp2_with fail
            rw [HY2.out]
            refine bodyPost_ret (v := .tuple #[v9, .agg #[.int .i64 0, .int .i64 (-1)]]) ?_ rfl (RSetPost.fault (c := 0) rfl rfl HOZ.out BZ.out)
            simp [results, Tryz.results102, go_sem, s0, s1]
end Go.Proofs.YtcjjbpoaojjojaaGreatDoor
