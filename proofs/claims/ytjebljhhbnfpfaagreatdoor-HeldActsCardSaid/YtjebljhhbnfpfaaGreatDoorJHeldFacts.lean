/- chandlerylaw2.holds: a closed fact; longHoldings; holdings in memory. What is dropped, and put again, in plain Lean. chandleryref1.SameInts by its contract. Rows of numbers that a call owns: an element, a part. -/
import Derived.Test.YtjebljhhbnfpfaaGreatDoorJHeldPut
import Derived.Test.YtjebljhhbnfpfaaGreatDoorJTold
import Derived.Test.YtjebljhhbnfpfaaGreatDoorJHeldUp
import Derived.Test.YtjebljhhbnfpfaaGreatDoorJRowed
namespace Go.Proofs.YtjebljhhbnfpfaaGreatDoor
open Go Go.RowKit Go.Maps

/-- A row of one file, made here. -/
theorem own_one (W : World) (base : Nat) (f : FileB) (hb : base ≤ W.heap.size) : FOwn (W.alloc (.cells #[.string f.path, .bool f.run, .string f.text] 72)) base (.slice (some ⟨W.heap.size, 0, none⟩) 1 1) [f] :=
  ⟨rfl, .inr ⟨W.heap.size, 1, _, rfl, hb, heap_alloc_new _ _, Nat.le_refl _, by rw [maxLen_eq]; decide, rfl, rfl⟩⟩
abbrev fileA : FileB := ⟨⟨#[97]⟩, false, ⟨#[]⟩⟩
abbrev fileC : FileB := ⟨⟨#[98]⟩, false, ⟨#[]⟩⟩
theorem fileA_right : (treeEr [fileA]).code = 0 := by decide +kernel
theorem fileC_right : (treeEr [fileC]).code = 0 := by decide +kernel
theorem pack_small (c : UInt8) : packL [⟨⟨#[c]⟩, false, ⟨#[]⟩⟩] = [c, 32, 102, 32, 48, 10, 10] := by
  have h : Lib.decDigits 0 = [48] := decDigits_small (by decide)
  unfold packL packOne
  simp only [List.flatMap_cons, List.flatMap_nil]
  rw [show (⟨⟨#[c]⟩, false, ⟨#[]⟩⟩ : FileB).text.size = 0 from rfl, h]
  rfl
theorem sumA : treeSum [fileA] = ((sumL [97, 32, 102, 32, 48, 10, 10] : Nat) : Int) := by unfold treeSum packT; rw [if_pos fileA_right, pack_small]
theorem sumC : treeSum [fileC] = ((sumL [98, 32, 102, 32, 48, 10, 10] : Nat) : Int) := by unfold treeSum packT; rw [if_pos fileC_right, pack_small]
theorem sums_differ : treeSum [fileA] ≠ treeSum [fileC] := by rw [sumA, sumC]; decide +kernel
theorem put_A : putH (newH 1) [fileA] = (⟨0, none⟩, treeSum [fileA], ⟨1, [(treeSum [fileA], [fileA])]⟩) := by
  unfold putH
  rw [if_neg (by rw [fileA_right]; simp), if_neg (show ¬ (newH 1).most = 0 by decide), if_neg (show ¬ (ixOf (treeSum [fileA]) (newH 1).sums).isSome = true by simp [newH, HeldB.sums, ixOf])]
  rfl
theorem put_C : putH ⟨1, [(treeSum [fileA], [fileA])]⟩ [fileC] = (⟨0, none⟩, treeSum [fileC], ⟨1, [(treeSum [fileC], [fileC])]⟩) := by
  unfold putH
  rw [if_neg (by rw [fileC_right]; simp), if_neg (by simp), if_neg (show ¬ (ixOf (treeSum [fileC]) (HeldB.sums ⟨1, [(treeSum [fileA], [fileA])]⟩)).isSome = true by simp [HeldB.sums, ixOf, sums_differ])]
  rfl
theorem get_A : getL [(treeSum [fileC], [fileC])] (treeSum [fileA]) = none := by unfold getL; rw [if_neg (fun e => sums_differ e.symm)]; rfl
theorem get_C : getL [(treeSum [fileC], [fileC])] (treeSum [fileC]) = some [fileC] := by unfold getL; rw [if_pos rfl]
theorem smallA (c : UInt8) : ∀ f ∈ [(⟨⟨#[c]⟩, false, ⟨#[]⟩⟩ : FileB)], SmallF f := fun f hf => by
  obtain rfl := List.mem_singleton.1 hf
  exact ⟨by show 1 ≤ _; omega, by show 0 ≤ _; omega⟩

set_option maxHeartbeats 1000000 in
set_option maxRecDepth 100000 in
theorem holds_any {E : Nat → Addr} (w : World) (hE : KEnv E w) : Calls Tryz.prog 7 #[] w fun e w' => e = .returned (.bool true) ∧ Below w.heap.size w w' := by
  have HE := Lib.hid hE
  have C := Lib.hid (heldNew_any 1 w)
  clear hE
  go_enter Tryz.func7, Tryz.ntmps7
  go_wp2_with fail
  refine C.out.mono ?_
  clear C
  rintro e w1 ⟨b, rfl, HI, b1⟩
  have ha := own_one w1 w.heap.size fileA b1.size
  have hal : Below w1.heap.size w1 (w1.alloc (.cells #[.string ⟨#[97]⟩, .bool false, .string ⟨#[]⟩] 72)) := (Below.refl _ _).alloc (Nat.le_refl _) _
  have b2 := b1.trans (hal.mono b1.size)
  have C := Lib.hid (heldPut_any (E := E) w.heap.size b (newH 1) (.slice (some ⟨w1.heap.size, 0, none⟩) 1 1) [fileA] _ (fun w' hk => FOwn.arg (hk.owns ha heldRow_files)) (by simp) (smallA 97) (HI.below hal) b2.size (HE.out.ext b2))
  rw [put_A] at C
  have B2 := Lib.hid b2
  clear ha hal HI b2
  go_wp2_with fail
  refine C.out.mono ?_
  clear C
  rintro e w3 ⟨⟨ev, rfl, HER⟩, HI3, K3, _⟩
  obtain rfl : ev = .nilIface := HER.nil_inv
  have b3 := B2.out.trans K3.below
  have ha := own_one w3 w.heap.size fileC b3.size
  have hal : Below w3.heap.size w3 (w3.alloc (.cells #[.string ⟨#[98]⟩, .bool false, .string ⟨#[]⟩] 72)) := (Below.refl _ _).alloc (Nat.le_refl _) _
  have b4 := b3.trans (hal.mono b3.size)
  have C := Lib.hid (heldPut_any (E := E) w.heap.size b ⟨1, [(treeSum [fileA], [fileA])]⟩ (.slice (some ⟨w3.heap.size, 0, none⟩) 1 1) [fileC] _ (fun w' hk => FOwn.arg (hk.owns ha heldRow_files)) (by simp) (smallA 98) (HI3.below hal) b4.size (HE.out.ext b4))
  rw [put_C] at C
  have B4 := Lib.hid b4
  clear ha hal HI3 b4 HER K3 b3 B2
  go_wp2_with fail
  refine C.out.mono ?_
  clear C
  rintro e w5 ⟨⟨ev, rfl, HER⟩, HI5, K5, _⟩
  obtain rfl : ev = .nilIface := HER.nil_inv
  have b5 := B4.out.trans K5.below
  have C := Lib.hid (heldGet_any (E := E) w.heap.size b ⟨1, [(treeSum [fileC], [fileC])]⟩ (treeSum [fileA]) (treeSum_i64 _) w5 HI5 (HE.out.ext b5).1.1)
  clear HER K5 B4
  dsimp only at *
  go_wp2_with fail
  refine C.out.mono ?_
  clear C
  rintro e w6 ⟨⟨l, ov, ho, _⟩ | ⟨_, rfl⟩, hb6⟩
  · rw [get_A] at ho; cases ho
  have b6 := b5.trans (hb6.mono b5.size)
  have C := Lib.hid (heldGet_any (E := E) w.heap.size b ⟨1, [(treeSum [fileC], [fileC])]⟩ (treeSum [fileC]) (treeSum_i64 _) w6 (HI5.below hb6) (HE.out.ext b6).1.1)
  clear HI5
  go_wp2_with fail
  refine C.out.mono ?_
  clear C
  rintro e w7 ⟨⟨l, ov, ho, rfl, HO⟩ | ⟨ho, _⟩, hb7⟩
  · rw [get_C] at ho
    obtain rfl : [fileC] = l := Option.some.inj ho
    have b7 := b6.trans (hb7.mono b6.size)
    have C := Lib.hid (codedTwo_any (HE.out.ext b7).1.1 (IsErr.base E w7 5 (by decide)) 6)
    rw [show codedB2 (Er.base (5 + 1)) 6 = true from rfl] at C
    obtain ⟨⟨ao, cap, rfl, h1, h2, h3⟩, _⟩ := FOwn.arg HO.out
    obtain ⟨b', off, rfl, hbl, hcell⟩ := h3 0 (by simp)
    obtain ⟨q0, _, _⟩ := hcell 0 (by simp)
    have p0 : w7.cell? ⟨b', off, none⟩ = some (.string ⟨#[98]⟩) := by rw [Nat.zero_mul, Nat.add_zero] at q0; exact q0
    clear ho HO h3 hcell q0
    go_wp2_with fail
    refine C.out.mono ?_
    clear C
    rintro e w8 ⟨rfl, hb8⟩
    have p1 := (hb8.cell (p := ⟨b', off, none⟩) hbl).trans p0
    clear p0
    go_wp2_with fail
    go_ret
    exact ⟨rfl, b7.trans (hb8.mono b7.size)⟩
  · rw [get_C] at ho; cases ho

/-- A holding, as a law is given it. -/
structure HoldB where
  put : Bool
  v : Value
  l : List FileB
  n : Int
/-- Holdings in memory. -/
def HRow (w : World) (v : Value) (L : List HoldB) : Prop :=
  (∃ ao cap, v = .slice ao L.length cap ∧ L.length ≤ cap ∧ cap ≤ maxLen ∧ (∀ i, i < L.length → ∃ b off, ao = some ⟨b, off, none⟩ ∧ b < w.heap.size ∧
    ∀ k, (hk : k < L.length) → w.cell? ⟨b, off + k * 3, none⟩ = some (.bool L[k].put) ∧ w.cell? ⟨b, off + k * 3 + 1, none⟩ = some L[k].v ∧ w.cell? ⟨b, off + k * 3 + 2, none⟩ = some (.int .i64 L[k].n))) ∧ ∀ x ∈ L, FArg w x.v x.l ∧ I64 x.n
theorem HRow.ext {w w' : World} {v : Value} {L : List HoldB} (h : HRow w v L) (hb : Below w.heap.size w w') : HRow w' v L := by
  obtain ⟨⟨ao, cap, h1, h2, h3, h4⟩, h5⟩ := h
  refine ⟨⟨ao, cap, h1, h2, h3, fun i hi => ?_⟩, fun x hx => ⟨(h5 x hx).1.ext hb, (h5 x hx).2⟩⟩
  obtain ⟨b, off, e, hbl, hc⟩ := h4 i hi
  refine ⟨b, off, e, Nat.lt_of_lt_of_le hbl hb.size, fun k hk => ?_⟩
  obtain ⟨q0, q1, q2⟩ := hc k hk
  exact ⟨by rw [hb.cell (p := ⟨b, off + k * 3, none⟩) hbl]; exact q0, by rw [hb.cell (p := ⟨b, off + k * 3 + 1, none⟩) hbl]; exact q1, by rw [hb.cell (p := ⟨b, off + k * 3 + 2, none⟩) hbl]; exact q2⟩
def ShortH (x : HoldB) : Prop := x.l.length ≤ 31 ∧ ∀ f ∈ x.l, f.path.size ≤ 100 ∧ f.text.size ≤ 4001
def LHPost (L : List HoldB) (w : World) (e : Ending) (w' : World) : Prop := (∃ r : Bool, e = .returned (.bool r) ∧ Hid (r = false → L.length ≤ 60 ∧ ∀ x ∈ L, ShortH x)) ∧ w = w'
theorem LHPost.yes {L : List HoldB} {w : World} : LHPost L w (.returned (.bool true)) w := ⟨⟨true, rfl, fun h => by cases h⟩, rfl⟩

set_option maxHeartbeats 1000000 in
set_option maxRecDepth 100000 in
theorem longHoldings_any (v : Value) (L : List HoldB) (w : World) (hv : HRow w v L) :
    Calls Tryz.prog 8 #[v] w (LHPost L w) := by
  obtain ⟨⟨ao, cap, rfl, h1, h2, H3⟩, H5⟩ := hv
  have HM := Lib.hid H3
  have HX := Lib.hid H5
  clear H3 H5
  go_enter Tryz.func8, Tryz.ntmps8
  by_cases h60 : L.length ≤ 60
  · go_wp2_with fail
    go_loopw [3] (fun i wr => ∃ k : Nat, k ≤ L.length ∧ i = .int .i64 k ∧ Hid (∀ j, (h : j < L.length) → j < k → ShortH L[j]) ∧ wr = w) (fun i _ => L.length - (intOf i).toNat)
    case atStart => exact ⟨0, Nat.zero_le _, rfl, fun j _ h => absurd h (Nat.not_lt_zero _), rfl⟩
    case round =>
      obtain ⟨k, hk, rfl, HA, rfl⟩ := hrel
      by_cases hlt : k < L.length
      · obtain ⟨b, off, rfl, hbl, hcell⟩ := HM.out k hlt
        obtain ⟨_, d1, _⟩ := hcell k hlt
        have C := Lib.hid (longFiles_any L[k].v L[k].l wr (HX.out L[k] (List.getElem_mem hlt)).1.1)
        have HK : Hid ((L[k].l.length ≤ 31 ∧ ∀ f ∈ L[k].l, f.path.size ≤ 100 ∧ f.text.size ≤ 4001) → ∀ j, (h : j < L.length) → j < k + 1 → ShortH L[j]) := fun hs j h hj => by
          by_cases e : j = k
          · subst e; exact hs
          · exact HA.out j h (by omega)
        clear hcell HA
        obtain ⟨xo, xc, hxv, _⟩ := (HX.out L[k] (List.getElem_mem hlt)).1.1
        generalize L[k].l = fl at C HK hxv
        generalize L[k].v = fv at C d1 hxv
        subst hxv
        go_wp2_with fail
        refine C.out.mono ?_
        clear C
        rintro e w2 ⟨⟨n, rfl, hn, HN⟩, rfl⟩
        rcases hn with rfl | rfl
        · have HK2 := Lib.hid (HK.out (HN.out rfl))
          clear HK HN
          go_wp2_with fail
          go_roundw
          case rel => exact ⟨k + 1, by omega, by go_num, HK2, trivial⟩
          case measure => simp [intOf]; omega
        · go_wp2_with fail
          go_ret
          exact LHPost.yes
      · obtain rfl : k = L.length := by omega
        have HT : Hid (L.length ≤ 60 ∧ ∀ x ∈ L, ShortH x) := ⟨h60, fun x hx => by obtain ⟨j, hj, rfl⟩ := List.getElem_of_mem hx; exact HA.out j hj hj⟩
        clear HA
        go_wp2_with fail
        go_ret
        exact ⟨⟨false, rfl, fun _ => HT.out⟩, rfl⟩
  · go_wp2_with fail
    go_ret
    exact LHPost.yes
end Go.Proofs.YtjebljhhbnfpfaaGreatDoor

namespace Go.Proofs.YtjebljhhbnfpfaaGreatDoor
open Go

theorem getL_at : ∀ {L : List (Int × List FileB)} {k : Nat} (hk : k < L.length), (L.map (·.1)).Nodup → getL L L[k].1 = some L[k].2
  | p :: L, 0, _, _ => by
    show (if p.1 = p.1 then some p.2 else _) = _
    rw [if_pos rfl]; rfl
  | p :: L, k + 1, hk, h => by
    rw [List.map_cons, List.nodup_cons] at h
    have hk' : k < L.length := by simpa using hk
    show (if p.1 = L[k].1 then some p.2 else getL L L[k].1) = some L[k].2
    rw [if_neg (fun e => h.1 (by rw [e]; exact List.mem_map.2 ⟨L[k], List.getElem_mem hk', rfl⟩)), getL_at hk' h.2]
theorem ix_at (h : HeldB) (k0 : HeldOk h) (k : Nat) (hk : k < h.trees.length) : ixOf h.trees[k].1 h.sums = some k := by
  have hs : k < h.sums.length := by rw [sums_len]; exact hk
  have := ixOf_of hs (fun j hj => List.pairwise_iff_getElem.1 k0.nodup j k (by omega) hs hj)
  rw [sums_at h k hk hs] at this
  exact this
def lessH (h : HeldB) (k : Nat) : HeldB := { h with trees := h.trees.eraseIdx k }
theorem dropH_at (h : HeldB) (k0 : HeldOk h) (k : Nat) (hk : k < h.trees.length) : dropH h h.trees[k].1 = (0, lessH h k) := by
  unfold dropH; rw [ix_at h k0 k hk]; rfl
theorem lessH_ok {h : HeldB} (k0 : HeldOk h) (k : Nat) (hk : k < h.trees.length) : HeldOk (lessH h k) := by
  have := dropH_ok h.trees[k].1 k0
  rw [dropH_at h k0 k hk] at this
  exact this
theorem lessH_sums (h : HeldB) (k : Nat) : (lessH h k).sums = h.sums.eraseIdx k := map_erase _ _ _
theorem less_get (h : HeldB) (k0 : HeldOk h) (k : Nat) (hk : k < h.trees.length) : getL (lessH h k).trees h.trees[k].1 = none := by
  show getL (h.trees.eraseIdx k) _ = none
  rw [getL_erase hk _ k0.nodup, if_pos rfl]
theorem getL_mem : ∀ {L : List (Int × List FileB)} {n : Int}, n ∈ L.map (·.1) → ∃ l, getL L n = some l
  | [], _, h => by cases h
  | p :: L, n, h => by
    unfold getL
    by_cases hp : p.1 = n
    · rw [if_pos hp]; exact ⟨_, rfl⟩
    · rw [if_neg hp]
      rw [List.map_cons, List.mem_cons] at h
      exact getL_mem (h.resolve_left (fun e => hp e.symm))
theorem not_in_less (h : HeldB) (k0 : HeldOk h) (k : Nat) (hk : k < h.trees.length) : h.trees[k].1 ∉ (lessH h k).sums := fun hm => by
  obtain ⟨l, hl⟩ := getL_mem hm
  rw [less_get h k0 k hk] at hl
  cases hl
theorem less_drop (h : HeldB) (k0 : HeldOk h) (k : Nat) (hk : k < h.trees.length) : dropH (lessH h k) h.trees[k].1 = (6, lessH h k) := by
  unfold dropH; rw [ixOf_none_iff.2 (not_in_less h k0 k hk)]
def backH (h : HeldB) (k : Nat) (hk : k < h.trees.length) : HeldB := { h with trees := h.trees.eraseIdx k ++ [h.trees[k]] }
theorem less_put (h : HeldB) (k0 : HeldOk h) (k : Nat) (hk : k < h.trees.length) : putH (lessH h k) h.trees[k].2 = (⟨0, none⟩, h.trees[k].1, backH h k hk) := by
  obtain ⟨h1, h2⟩ := k0.right _ (List.getElem_mem hk)
  have hl := k0.len
  have hn := not_in_less h k0 k hk
  have e : (lessH h k).trees.length = h.trees.length - 1 := by unfold lessH; rw [List.length_eraseIdx, if_pos hk]
  have hm : (lessH h k).most = h.most := rfl
  unfold putH
  rw [if_neg (by rw [h1]; simp), if_neg (by rw [hm]; omega), ← h2, if_neg (fun hx => hn (ixOf_isSome.1 hx)), if_neg (by rw [e, hm]; omega), List.drop_zero]
  rfl
theorem backH_sums (h : HeldB) (k : Nat) (hk : k < h.trees.length) : (backH h k hk).sums = h.sums.eraseIdx k ++ [h.trees[k].1] := by
  unfold backH HeldB.sums
  rw [List.map_append, map_erase]
  rfl
theorem putH_most (h : HeldB) (l : List FileB) : (putH h l).2.2.most = h.most := by
  unfold putH
  split
  · rfl
  · split
    · rfl
    · split <;> rfl
end Go.Proofs.YtjebljhhbnfpfaaGreatDoor

namespace Go.Proofs.YtjebljhhbnfpfaaGreatDoor
open Go Go.RowKit

set_option maxHeartbeats 400000 in
theorem sameInts_any {w : World} {v u : Value} {l m : List Int} (hv : Row encInt 1 w v l) (hu : Row encInt 1 w u m) :
    Calls Tryz.prog 15 #[v, u] w fun e w' => e = .returned (.bool (decide (l = m))) ∧ Below w.heap.size w w' := by
  obtain ⟨ao, cap, rfl, h1, h2, H3⟩ := hv.parts
  obtain ⟨ao', cap', rfl, h1', h2', H3'⟩ := hu.parts
  have hl : l.length ≤ 9223372036854775807 := by rw [maxLen_eq] at h2; omega
  clear hv hu h1 h2 h1' h2'
  by_cases hlen : l.length = m.length
  · have hd : ((l.length : Int) != m.length) = false := by rw [hlen]; simp
    have HL := Lib.hid hlen
    have HM := Lib.hid H3
    have HM' := Lib.hid H3'
    clear H3 H3'
    go_enter Tryz.func15, Tryz.ntmps15
    clear hlen
    go_wp2
    go_loopw [5] (fun i w1 => ∃ k : Nat, k ≤ l.length ∧ i = .int .i64 k ∧ Hid (l.take k = m.take k) ∧ Below w.heap.size w w1) (fun i _ => l.length - (intOf i).toNat)
    case atStart => exact ⟨0, Nat.zero_le _, rfl, by simp [Hid], Below.refl _ _⟩
    case round =>
      obtain ⟨k, hk, rfl, HT, hb⟩ := hrel
      by_cases hlt : k < l.length
      · have hlt' : k < m.length := by have := HL.out; omega
        obtain ⟨b, off, rfl, hbl, hcell⟩ := HM.out k hlt
        obtain ⟨b', off', rfl, hbl', hcell'⟩ := HM'.out k hlt'
        have c := hcell k hlt
        have c' := hcell' k hlt'
        rw [← hb.cell (p := ⟨b, off + k, none⟩) hbl] at c
        rw [← hb.cell (p := ⟨b', off' + k, none⟩) hbl'] at c'
        clear hcell hcell'
        cases hx : (l[k] != m[k])
        · go_wp2
          go_quiet (fail)
          go_wp2
          go_roundw
          case rel =>
            refine ⟨k + 1, by omega, by go_num, ?_, hb.trans (below_drewN _ _ _)⟩
            show List.take (k + 1) l = List.take (k + 1) m
            rw [List.take_succ_eq_append_getElem hlt, List.take_succ_eq_append_getElem hlt', HT.out, bne_eq_false_iff_eq.1 hx]
          case measure => simp [intOf]; omega
        · go_wp2
          go_quiet (fail)
          go_wp2
          go_ret
          refine ⟨?_, hb.trans (below_drewN _ _ _)⟩
          have hne : l ≠ m := by rintro rfl; simp at hx
          simp [hne]
      · have hkl : k = l.length := by omega
        have hfin : l = m := by
          have h := HT.out
          rw [List.take_of_length_le (by omega), List.take_of_length_le (by have := HL.out; omega)] at h
          exact h
        have HF := Lib.hid hfin
        clear hfin
        go_wp2
        go_ret
        exact ⟨by simp [HF.out], hb⟩
  · have hd : ((l.length : Int) != m.length) = true := by rw [bne_iff_ne]; omega
    have hne : l ≠ m := fun h => hlen (by rw [h])
    have HN := Lib.hid hne
    clear hne
    go_enter Tryz.func15, Tryz.ntmps15
    go_wp2
    go_ret
    exact ⟨by simp [HN.out], Below.refl _ _⟩
end Go.Proofs.YtjebljhhbnfpfaaGreatDoor

namespace Go.Proofs.YtjebljhhbnfpfaaGreatDoor
open Go Go.RowKit Go.Maps

theorem iown_at {w : World} {base b off n cap : Nat} {zs : List Int} (h : IOwn w base (.slice (some ⟨b, off, none⟩) n cap) zs) (k : Nat) (hk : k < zs.length) : w.cell? ⟨b, off + k, none⟩ = some (.int .i64 zs[k]) := by
  rcases (IOwn.row h).one with ⟨e, _⟩ | ⟨b2, off2, cap2, e, h1, h2, h3, h4⟩
  · cases e
  · injection e with q1 _ _
    injection q1 with q1
    injection q1 with q1 q2 _
    subst q1; subst q2
    exact h4 k hk
theorem iown_parts {w : World} {base : Nat} {v : Value} {zs : List Int} (h : IOwn w base v zs) (hz : 0 < zs.length) : ∃ b off cap, v = .slice (some ⟨b, off, none⟩) zs.length cap ∧ zs.length ≤ cap ∧ cap ≤ maxLen := by
  rcases (IOwn.row h).one with ⟨_, e⟩ | ⟨b2, off2, cap2, e, h1, h2, h3, h4⟩
  · rw [e] at hz; exact absurd hz (Nat.lt_irrefl _)
  · exact ⟨b2, off2, cap2, e, h1, h2⟩
theorem iown_open {w : World} {base n cap : Nat} {ao : Option Addr} {zs : List Int} (h : IOwn w base (.slice ao n cap) zs) (hz : 0 < zs.length) : ∃ b off, ao = some ⟨b, off, none⟩ := by
  obtain ⟨b, off, c, e, _⟩ := iown_parts h hz
  injection e with e
  exact ⟨b, off, e⟩
theorem mem_i64 {h : HeldB} (h0 : HeldOk h) {n : Int} (hm : n ∈ h.sums) : I64 n := by
  obtain ⟨p, hp, rfl⟩ := List.mem_map.1 hm
  rw [(h0.right p hp).2]; exact treeSum_i64 _
theorem iown_cap {w : World} {base n cap : Nat} {ao : Option Addr} {zs : List Int} (h : IOwn w base (.slice ao n cap) zs) : n ≤ cap := by
  rcases h.2 with ⟨e, h0⟩ | ⟨g, cap', cur, e, hb, hg, hn, hc, _⟩
  · injection e with _ e2 e3; omega
  · injection e with _ e2 e3; omega
end Go.Proofs.YtjebljhhbnfpfaaGreatDoor
