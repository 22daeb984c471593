/- tree.Sort: the contract. -/
import Derived.Test.YtomceddfbfpjjaaGreatDoorKSortTail
import Derived.Test.YtomceddfbfpjjaaGreatDoorKTreed
import Derived.Test.YtomceddfbfpjjaaGreatDoorKTreePlains
namespace Go.Proofs.YtomceddfbfpjjaaGreatDoor
open Go Go.RowKit

theorem dupB_iff : ∀ {m : List FileB}, dupB m = true ↔ ∃ i, ∃ h : i + 1 < m.length, m[i].path = m[i + 1].path
  | [] => by simp [dupB]
  | [f] => by simp [dupB]
  | f :: g :: l => by
    unfold dupB
    rw [Bool.or_eq_true, decide_eq_true_iff, dupB_iff (m := g :: l)]
    constructor
    · rintro (h | ⟨i, hi, h⟩)
      · exact ⟨0, by simp, h⟩
      · exact ⟨i + 1, by simpa using hi, h⟩
    · rintro ⟨i, hi, h⟩
      cases i with
      | zero => exact .inl h
      | succ i => exact .inr ⟨i, by simpa using hi, h⟩
/-- What a function over trees hands back: an error, files. -/
def TPost (E : Nat → Addr) (r : Er × List FileB) (w : World) (e : Ending) (w' : World) : Prop :=
  (∃ v ev, e = .returned (.tuple #[v, ev]) ∧ Hid (IsErr E w' ev r.1) ∧ Hid (FOwn w' w.heap.size v r.2)) ∧ Below w.heap.size w w'
theorem TPost.none {E : Nat → Addr} {er : Er} {w w' : World} {ev : Value} (h : Hid (IsErr E w' ev er)) (hb : Below w.heap.size w w') : TPost E (er, []) w (.returned (.tuple #[.slice none 0 0, ev])) w' :=
  ⟨⟨_, _, rfl, h, FOwn.nil _ _⟩, hb⟩
theorem IsErr.sent {E : Nat → Addr} {w : World} {k : Nat} (hk : k < 13) : IsErr E w (sentV E k) ⟨k + 1, none⟩ := .inr (.inl ⟨k, hk, rfl, rfl⟩)
theorem FOwn.row {w : World} {base : Nat} {v : Value} {l : List FileB} (h : FOwn w base v l) : FRow w v l := h.arg.1
theorem isort_small {l : List FileB} (h : ∀ f ∈ l, SmallF f) : ∀ f ∈ isort l, SmallF f := fun f hf => h f ((isort_perm l).mem_iff.1 hf)

set_option maxHeartbeats 2000000 in
set_option maxRecDepth 100000 in
theorem treeSort_any {E : Nat → Addr} (v : Value) (l : List FileB) (w : World) (hv : FRow w v l) (hl : l.length ≤ 10000) (hS : ∀ f ∈ l, SmallF f) (hE : FEnv E w) :
    Calls Tryz.prog 176 #[v] w (TPost E (sortT l) w) := by
  have C := Lib.hid (sortedFiles_any v l w hl hv)
  have HE := Lib.hid hE
  have HS := Lib.hid hS
  obtain ⟨ao0, cap0, rfl, _⟩ := hv
  clear hE hS
  go_enter Tryz.func176, Tryz.ntmps176
  go_wp2_with fail
  refine (values_any ao0 l.length cap0 w).mono ?_
  rintro e w1 ⟨rfl, rfl⟩
  go_wp2_with fail
  refine C.out.mono ?_
  rintro e w2 ⟨⟨u, m, rfl, HO, HP, HA⟩, hb⟩
  have HD := Lib.hid (sortT_any HP.out HA.out)
  have hml : m.length = l.length := HP.out.length_eq
  have hm9 : m.length ≤ 10000 := by omega
  clear hml C
  have HR := Lib.hid HO.out.row
  obtain ⟨ao, cap, rfl, hc1, hc2, H3⟩ := HR.out
  have HM := Lib.hid H3
  clear H3
  obtain ⟨n, hn⟩ : ∃ n, m.length = n := ⟨_, rfl⟩
  have HN := Lib.hid hn
  rw [hn] at hc1 hm9 HR HO ⊢
  clear hn
  go_wp2_with fail
  go_loopg [5] n (fun g1 vi wr => ∃ k : Nat, vi = .int .i64 ((k : Int) + 1) ∧ n - k ≤ g1 ∧ Hid (∀ j, (h : j + 1 < m.length) → j < k → m[j].path ≠ m[j + 1].path) ∧ Below w2.heap.size w2 wr)
  case atStart => exact ⟨0, by go_num, by omega, fun j _ h => absurd h (Nat.not_lt_zero _), Below.refl _ _⟩
  case round =>
    obtain ⟨k, rfl, hg, HK, hb2⟩ := hrel
    by_cases hlt : k + 1 < n
    · have hl1 : k + 1 < m.length := by rw [HN.out]; exact hlt
      obtain ⟨b, off, rfl, hbl, hcell⟩ := HM.out k (by omega)
      obtain ⟨q0, _, _⟩ := hcell k (by omega)
      obtain ⟨p0, _, _⟩ := hcell (k + 1) hl1
      rw [← hb2.cell (p := ⟨b, off + k * 3, none⟩) hbl] at q0
      rw [← hb2.cell (p := ⟨b, off + (k + 1) * 3, none⟩) hbl] at p0
      have hi1 : (k : Int) + 1 < (n : Int) := by omega
      have hi0 : (k : Int) < (n : Int) := by omega
      have e2 : ((k : Int) + 1).toNat = k + 1 := by omega
      have p2 : (0 : Int) ≤ (k : Int) + 1 := by omega
      have HKS : Hid (m[k].path ≠ m[k + 1].path → ∀ j, (h : j + 1 < m.length) → j < k + 1 → m[j].path ≠ m[j + 1].path) := fun hne j h hj => by
        by_cases e : j = k
        · subst e; exact hne
        · exact HK.out j h (by omega)
      have HKB : Hid (m[k].path = m[k + 1].path → dupB (isort l) = true) := fun he => by
        rw [← HD.out.1]; exact dupB_iff.2 ⟨k, hl1, he⟩
      clear hcell HK
      by_cases hq : m[k + 1].path = m[k].path
      · have HY : Hid (sortT l = (⟨7, none⟩, [])) := by show _ = _; unfold sortT; rw [if_pos (HKB.out hq.symm)]
        have ex : wr.cell? ⟨8, 0, none⟩ = some (sentV E 6) := ((HE.out.ext (hb.trans (hb2.mono hb.size))).1.err 6 (by decide))
        rw [hq] at p0
        clear HKS HKB HM HO HR HN hq
        generalize m[k].path = pp at q0 p0
        have e0 : (pp.toList == pp.toList) = true := beq_self_eq_true _
        go_wp2_with fail
        go_quiet (fail)
        go_wp2_with fail
        go_quiet (fail)
        go_wp2_with fail
        go_ret2
        rw [HY.out]
        exact TPost.none (IsErr.sent (by decide)) (hb.trans ((hb2.trans (((below_drewN _ wr _).trans (below_drewN _ _ _)).mono hb2.size)).mono hb.size))
      · have HN2 := Lib.hid (HKS.out (fun e => hq e.symm))
        have e0 : (m[k + 1].path.toList == m[k].path.toList) = false := beq_eq_false_iff_ne.2 (fun e => hq (bl_inj (by rw [toList_bl, toList_bl] at e; exact e)))
        clear HKS HKB hq
        generalize m[k].path = pp at q0 p0 e0
        generalize m[k + 1].path = pp2 at q0 p0 e0
        go_wp2_with fail
        go_quiet (fail)
        go_wp2_with fail
        go_roundg (n - (k + 1))
        case measure => omega
        case rel => exact ⟨k + 1, by go_num, Nat.le_refl _, HN2, hb2.trans ((below_drewN _ _ _).mono hb2.size)⟩
    · have hi1 : ¬ (k : Int) + 1 < (n : Int) := by omega
      have HF : Hid (dupB (isort l) = false) := by
        show _ = _
        rw [← HD.out.1]
        cases h : dupB m with
        | false => rfl
        | true =>
          obtain ⟨i, hi, he⟩ := dupB_iff.1 h
          exact absurd he (HK.out i hi (by have := HN.out; omega))
      have HMI : Hid (m = isort l) := HD.out.2 (HD.out.1.trans HF.out)
      have hb3 := hb.trans (hb2.mono hb.size)
      have HR3 := Lib.hid (HR.out.ext hb2)
      have C := Lib.hid (treeCheck_any _ m wr HR3.out (by have := HN.out; omega) (fun f hf => HS.out f (HP.out.mem_iff.1 hf)) (HE.out.ext hb3))
      have HO3 := Lib.hid (HO.out.ext hb2)
      clear HK HM HO HR HD HP HA
      go_wp2_with fail
      refine C.out.mono ?_
      rintro e w4 ⟨⟨ev, rfl, HI⟩, hb4⟩
      have HO4 := Lib.hid (HO3.out.ext hb4)
      have hb5 := hb3.trans (hb4.mono hb3.size)
      have HT : Hid (sortT l = if (treeEr (isort l)).code ≠ 0 then (treeEr (isort l), []) else (⟨0, none⟩, isort l)) := by show _ = _; unfold sortT; rw [if_neg (by rw [HF.out]; decide)]
      clear C HR3 HO3 hb3 hb2 hb4
      by_cases hz : (treeEr m).code = 0
      · have HZ : Hid (sortT l = (⟨0, none⟩, m)) := by show _ = _; rw [HT.out, ← HMI.out, if_neg (by rw [hz]; decide)]
        have e0 : ev = .nilIface := IsErr.nil_inv (a := (treeEr m).at?) (by have := HI.out; rw [show treeEr m = ⟨(treeEr m).code, (treeEr m).at?⟩ from rfl, hz] at this; exact this)
        subst e0
        clear HI hz HT HMI HF
        go_wp2_with fail
        go_ret2
        rw [HZ.out]
        exact ⟨⟨_, _, rfl, .inl ⟨rfl, rfl⟩, HO4⟩, hb5⟩
      · have HZ : Hid (sortT l = (treeEr m, [])) := by show _ = _; rw [HT.out, ← HMI.out, if_pos hz]
        obtain ⟨t, x, rfl⟩ := IsErr.some_inv HI.out hz
        clear hz HT HMI HF HO4
        go_wp2_with fail
        go_ret2
        rw [HZ.out]
        exact TPost.none HI hb5
end Go.Proofs.YtomceddfbfpjjaaGreatDoor
