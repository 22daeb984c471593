/- package lock: Bundle by its contract. package lock: Split by its contract. package lock: Load by its contract. -/
import Derived.Test.YtgchgdkpipanjaaGreatDoorJLockAll
import Derived.Test.YtgchgdkpipanjaaGreatDoorJLockPlainAll
import Derived.Test.YtgchgdkpipanjaaGreatDoorJTreesUp
import Derived.Test.YtgchgdkpipanjaaGreatDoorJTreeLoops
import Derived.Deep.RegionWith
import Derived.Test.YtgchgdkpipanjaaGreatDoorJPackReads
import Derived.Test.YtgchgdkpipanjaaGreatDoorJPackedUp
import Derived.Test.YtgchgdkpipanjaaGreatDoorJTreeFew
import Derived.BigQuiet
namespace Go.Proofs.YtgchgdkpipanjaaGreatDoor
open Go Go.RowKit Go.Maps

/-- What lock.Bundle hands back. -/
def LBundPost (E : Nat → Addr) (r : Er × List UInt8) (w : World) (e : Ending) (w' : World) : Prop :=
  (∃ (t : ByteArray) (ev : Value), e = .returned (.tuple #[.string t, ev]) ∧ Hid (bl t = r.2) ∧ Hid (IsErr E w' ev r.1)) ∧ Below w.heap.size w w'
theorem right_small {l : List FileB} (h : (treeEr l).code = 0) : l.length ≤ 30 ∧ (∀ f ∈ l, SmallF f) ∧ ∀ f ∈ l, f.path.size ≤ 78 := by
  obtain ⟨_, h1, _, h3⟩ := treeEr_zero h
  have hp : ∀ f ∈ l, f.path.size ≤ 78 := fun f hf => by
    have h5 := path_len (h3 f hf).1
    rwa [bl_length] at h5
  exact ⟨h1, fun f hf => ⟨by have := hp f hf; omega, by have := (h3 f hf).2; omega⟩, hp⟩
theorem want_i64 {w : WantB} (h : wantE w = 0) : I64 w.sum := by have := (wantE_zero h).sum; constructor <;> omega
theorem want_name {w : WantB} (h : wantE w = 0) : w.name.size ≤ 12 := by
  have := partB_len (wantE_zero h).name
  rwa [bl_length] at this
theorem graft_tree {l m : List FileB} {d : ByteArray} (h : (graftT l d m).1.code = 0) : (treeEr (graftT l d m).2).code = 0 := (treeOk_iff _).2 (graft_ok h).1.ok

set_option maxHeartbeats 4000000 in
set_option maxRecDepth 100000 in
theorem lockBundle_any {E : Nat → Addr} (B b : Nat) (h : HeldB) (v : Value) (l : List WantB) (w : World) (hi : HeldIs w B b h) (hv : WRow w v l) (hl : l.length ≤ 100000) (hS : ∀ f ∈ l, SmallW f) (hE : KEnv E w) :
    Calls Tryz.prog 21 #[.pointer (some ⟨b, 0, none⟩), v] w (LBundPost E (bundleLk h l) w) := by
  have HV := Lib.hid hv
  have HI := Lib.hid hi
  have HHO := Lib.hid hi.1
  have HE := Lib.hid hE
  have C := Lib.hid (lockCheck_any v l w hv hl hS hE.1)
  obtain ⟨ao, cap, rfl⟩ := hv.len
  clear hv hi hE hS
  go_enter Tryz.func21, Tryz.ntmps21
  go_wp2_with fail
  refine C.out.mono ?_
  clear C
  rintro e w1 ⟨⟨ev, rfl, HER⟩, hb1⟩
  have B1 := Lib.hid hb1
  clear hb1
  by_cases hz : (lockEr l).code = 0
  rotate_left
  · obtain ⟨t, x, rfl⟩ := HER.out.some_inv hz
    have HY := Lib.hid (bundle_lock (h := h) hz)
    clear hz
    go_wp2_with fail
    go_ret2
    rw [HY.out]
    exact ⟨⟨⟨#[]⟩, _, rfl, rfl, HER⟩, B1.out⟩
  obtain rfl : ev = .nilIface := HER.out.nil0 hz
  have HZ := Lib.hid hz
  have OK := Lib.hid ((lockOk_iff l).1 hz)
  have hl20 := OK.out.few
  clear hz HER
  go_wp2_with fail
  go_loopw [8, 27] (fun tv i wr => ∃ (k : Nat) (ts : List (List FileB)), k ≤ l.length ∧ i = .int .i64 k ∧ Hid (TsOwn wr w.heap.size tv ts) ∧ Hid (ts = (l.take k).map (treeOf h)) ∧ Hid (∀ x ∈ l.take k, getL h.trees x.sum = some (treeOf h x)) ∧ Hid (missGo h 0 l = missGo h k (l.drop k)) ∧ Below w.heap.size w wr) (fun _ i _ => l.length - (intOf i).toNat)
  case atStart => exact ⟨0, [], Nat.zero_le _, rfl, TsOwn.nil _ _, rfl, (fun x hx => by cases hx), rfl, B1.out⟩
  case round =>
    clear B1
    obtain ⟨k, ts, hk, rfl, HT, HTS, HG, HM, hb⟩ := hrel
    have Bw := Lib.hid hb
    have htl : ts.length ≤ 20 := by rw [HTS.out, List.length_map, List.length_take]; omega
    obtain ⟨tso, tc, rfl⟩ := HT.out.shape
    clear hb
    by_cases hlt : k < l.length
    · obtain ⟨ba, off, rfl, hcell⟩ := HV.out.at hlt
      obtain ⟨q0, q1, q2, q3, q4⟩ := hcell wr Bw.out
      have hwe := OK.out.each l[k] (List.getElem_mem hlt)
      have hi64 := want_i64 hwe
      have HMA := Lib.hid (fun hn => bundle_miss HZ.out (miss_at hlt HM.out hn))
      have HMN : Hid (∀ t, getL h.trees l[k].sum = some t → missGo h 0 l = missGo h (k + 1) (l.drop (k + 1)) ∧ ts ++ [t] = (l.take (k + 1)).map (treeOf h) ∧ ∀ x ∈ l.take (k + 1), getL h.trees x.sum = some (treeOf h x)) := fun t ht => by
        have htt := treeOf_get ht
        refine ⟨miss_next hlt HM.out ht, ?_, fun x hx => ?_⟩
        · rw [List.take_succ_eq_append_getElem hlt, List.map_append, ← HTS.out, ← htt]; rfl
        · rw [List.take_succ_eq_append_getElem hlt] at hx
          rcases List.mem_append.1 hx with hx | hx
          · exact HG.out x hx
          · obtain rfl := List.mem_singleton.1 hx
            rw [ht, htt]
      clear hcell hwe HG HTS HM
      obtain ⟨f, hf⟩ : ∃ f, l[k] = f := ⟨_, rfl⟩
      rw [hf] at q0 q1 q2 q3 q4 hi64 HMA HMN
      clear hf
      have HI64 := Lib.hid hi64
      obtain ⟨pf, hpf⟩ : ∃ pf, wr.heap.size = pf := ⟨_, rfl⟩
      obtain ⟨wa, hwa⟩ : ∃ wa, wr.alloc (.cells #[.string f.name, .string f.url, .string f.kind, .int .i64 f.strip, .int .i64 f.sum] 41) = wa := ⟨_, rfl⟩
      have hal : Below wr.heap.size wr wa := by rw [← hwa]; exact (Below.refl _ _).alloc (Nat.le_refl _) _
      have BX := Lib.hid (show WBox wa pf f by rw [← hwa, ← hpf]; exact WBox.new wr f)
      have Ba := Lib.hid (Bw.out.trans (hal.mono Bw.out.size))
      have HTa := Lib.hid (HT.out.ext hal)
      have HPF := Lib.hid hpf
      have HWA := Lib.hid hwa
      have C := Lib.hid (heldGet_any (E := E) B b h f.sum HI64.out wa (HI.out.below Ba.out) (HE.out.ext Ba.out).1.1)
      clear hal hpf hwa hi64 HT
      go_upto_region 11 with fail
      rw [HWA.out, HPF.out]
      clear q0 q1 q2 q3 q4
      obtain ⟨c0, c1, c2, c3, c4⟩ := BX.out.cells
      go_wp2_with fail
      refine C.out.mono ?_
      clear C c0 c1 c2 c3 c4
      rintro e w2 ⟨⟨t, tv, hg, rfl, HF⟩ | ⟨hg, rfl⟩, hb2⟩
      · have HN := Lib.hid (HMN.out t hg)
        have B2 := Lib.hid (Ba.out.trans (hb2.mono Ba.out.size))
        have HT2 := Lib.hid (HTa.out.ext hb2)
        have HF2 := Lib.hid (HF.out.low Ba.out.size)
        obtain ⟨fo, fc, rfl⟩ := HF.out.shape
        clear hg HMA HMN HF HTa hb2
        go_wp2_with (at_builtin; refine wpList_append_tree rfl _ _ rfl w.heap.size (.slice tso ts.length tc) ts rfl HT2.out (.slice fo t.length fc) t HF2.out rfl (by omega) B2.out.size ?_)
        intro v3 w3 HT3 HB3'
        have B3 := Lib.hid (HB3'.out w B2.out)
        clear HB3' HT2 HF2 B2
        go_wp2_with fail
        go_roundw
        case rel => exact ⟨k + 1, ts ++ [t], by omega, by go_num, HT3, HN.out.2.1, HN.out.2.2, HN.out.1, B3.out⟩
        case measure => simp [intOf]; omega
      · have HY := Lib.hid (HMA.out hg)
        have B2 := Lib.hid (Ba.out.trans (hb2.mono Ba.out.size))
        clear hg HMA HMN
        go_wp2_with fail
        go_ret2
        rw [HY.out]
        refine ⟨⟨⟨#[]⟩, _, rfl, rfl, ?_⟩, B2.out.alloc B2.out.size _⟩
        exact IsErr.fault E _ 5 (by decide) _ _ (by rw [World.cell?_alloc_at _ _ _ _ rfl]; rfl) (by rw [World.cell?_alloc_at _ _ _ _ rfl]; rfl)
    · obtain rfl : k = l.length := by omega
      have HM2 := Lib.hid (miss_end HM.out)
      have HTS2 : Hid (ts = l.map (treeOf h)) := by show _ = _; rw [HTS.out, List.take_length]
      have HG2 : Hid (∀ x ∈ l, getL h.trees x.sum = some (treeOf h x)) := by have := HG.out; rwa [List.take_length] at this
      clear HM HTS HG
      obtain ⟨we, rfl⟩ : ∃ we, we = wr := ⟨_, rfl⟩
      go_wp2_with fail
      go_loopw [7, 53] (fun av i wr => ∃ (k : Nat) (acc : List FileB), k ≤ l.length ∧ i = .int .i64 k ∧ Hid (FOwn wr w.heap.size av acc) ∧ Hid ((treeEr acc).code = 0) ∧ Hid (graftsGo h [] l = graftsGo h acc (l.drop k)) ∧ Hid (Below we.heap.size we wr)) (fun _ i _ => l.length - (intOf i).toNat)
      case atStart => exact ⟨0, [], Nat.zero_le _, rfl, FOwn.nil _ _, rfl, rfl, Below.refl _ _⟩
      case round =>
        obtain ⟨k, acc, hk, rfl, HA, HAE, HGR, Bq⟩ := hrel
        obtain ⟨oo, oc, rfl⟩ := HA.out.shape
        have ra1 := (right_small HAE.out).1
        have Bw2 := Lib.hid (Bw.out.trans (Bq.out.mono Bw.out.size))
        have HT2 := Lib.hid (HT.out.ext Bq.out)
        by_cases hlt : k < l.length
        · obtain ⟨ba, off, rfl, hcell⟩ := HV.out.at hlt
          obtain ⟨q0, q1, q2, q3, q4⟩ := hcell wr Bw2.out
          have hkt : k < ts.length := by rw [HTS2.out, List.length_map]; exact hlt
          obtain ⟨g, tv, rfl, hgl, hgc, HTV⟩ := HT2.out.at hkt
          have HTV' := Lib.hid HTV
          clear HTV
          have HTV := HTV'
          clear HTV'
          have htk : ts[k] = treeOf h l[k] := by
            have : ts[k]? = (l.map (treeOf h))[k]? := by rw [HTS2.out]
            rw [List.getElem?_eq_getElem hkt, List.getElem?_eq_getElem (by rw [List.length_map]; exact hlt), List.getElem_map] at this
            exact Option.some.inj this
          rw [htk] at HTV
          have HTR : Hid ((treeEr (treeOf h l[k])).code = 0) := (held_ok HHO.out (HG2.out l[k] (List.getElem_mem hlt))).1
          have hnm := want_name (OK.out.each l[k] (List.getElem_mem hlt))
          have HGB := Lib.hid (fun c => grafts_bad (c := c) hlt HGR.out)
          have HGN := Lib.hid (grafts_next hlt HGR.out)
          clear hcell htk HGR
          obtain ⟨f, hf⟩ : ∃ f, l[k] = f := ⟨_, rfl⟩
          rw [hf] at q0 q1 q2 q3 q4 HTV HTR hnm HGB HGN
          clear hf
          obtain ⟨t, ht⟩ : ∃ t, treeOf h f = t := ⟨_, rfl⟩
          rw [ht] at HTV HTR HGB HGN
          clear ht
          obtain ⟨fo, fc, rfl⟩ := HTV.out.shape
          obtain ⟨pf, hpf⟩ : ∃ pf, wr.heap.size = pf := ⟨_, rfl⟩
          obtain ⟨wa, hwa⟩ : ∃ wa, wr.alloc (.cells #[.string f.name, .string f.url, .string f.kind, .int .i64 f.strip, .int .i64 f.sum] 41) = wa := ⟨_, rfl⟩
          have hal : Below wr.heap.size wr wa := by rw [← hwa]; exact (Below.refl _ _).alloc (Nat.le_refl _) _
          have BX := Lib.hid (show WBox wa pf f by rw [← hwa, ← hpf]; exact WBox.new wr f)
          have Bqa := Lib.hid (Bq.out.trans (hal.mono Bq.out.size))
          have Ba := Lib.hid (Bw2.out.trans (hal.mono Bw2.out.size))
          have hga : wa.cell? ⟨g, k, none⟩ = some (.slice fo t.length fc) := (hal.cell (p := ⟨g, k, none⟩) hgl).trans hgc
          have HPF := Lib.hid hpf
          have HWA := Lib.hid hwa
          have hd : Below wa.heap.size wa wa.drew := below_drewN _ _ 1
          have hald := hal.trans (hd.mono hal.size)
          have C := Lib.hid (treeGraft_any (E := E) (.slice oo acc.length oc) (.slice fo t.length fc) acc t f.name wa.drew (HA.out.ext hald).arg (HTV.out.ext hald).row (by have := ra1; omega) (by have := (right_small HTR.out).1; omega) (right_small HAE.out).2.1 (right_small HTR.out).2.1 (fun x hx => by have := (right_small HTR.out).2.2 x hx; omega) (by omega) (HE.out.ext (Ba.out.trans (hd.mono Ba.out.size))).1)
          clear hal hpf hwa hgc HT2 HA hd hald
          go_upto_region 19 with fail
          rw [HWA.out, HPF.out]
          clear q0 q1 q2 q3 q4
          obtain ⟨c0, _, _, _, _⟩ := BX.out.cells
          have d0 : wa.drew.cell? ⟨pf, 0, none⟩ = some (.string f.name) := c0
          have hgd : wa.drew.cell? ⟨g, k, none⟩ = some (.slice fo t.length fc) := hga
          go_region_with (go_at_call 63; refine C.out.mono ?_; clear C; rintro e w3 ⟨⟨ov, ev, rfl, HI3, HO3⟩, hb3⟩)
          all_goals
            have hb3' : Below wa.heap.size wa w3 := (below_drewN _ wa 1).trans hb3
            have B3 := Lib.hid (Ba.out.trans (hb3'.mono Ba.out.size))
            have Bq3 := Lib.hid (Bqa.out.trans (hb3'.mono Bqa.out.size))
            have HO4 := Lib.hid (HO3.out.low (show w.heap.size ≤ wa.drew.heap.size from Ba.out.size))
            clear hb3 hb3' HO3 c0 d0 hga hgd BX
            by_cases hz : (graftT acc f.name t).1.code = 0
            · obtain rfl : ev = .nilIface := HI3.out.nil0 hz
              have HN2 := Lib.hid (HGN.out hz)
              have HN3 := Lib.hid (graft_tree hz)
              obtain ⟨acc2, hacc⟩ : ∃ x, (graftT acc f.name t).2 = x := ⟨_, rfl⟩
              rw [hacc] at HN2 HN3 HO4
              obtain ⟨o2, n2, c2, rfl⟩ : ∃ o n c, ov = .slice o n c := by obtain ⟨o, c, e⟩ := HO4.out.shape; exact ⟨o, _, c, e⟩
              clear hz HGN HGB HI3 hacc
              go_wp2_with fail
              go_roundw
              case rel => exact ⟨k + 1, acc2, by omega, by go_num, HO4, HN3, HN2, Bq3⟩
              case measure => simp [intOf]; omega
            · obtain ⟨c, hc⟩ : ∃ c, (graftT acc f.name t).1.code = c + 1 := ⟨_, (Nat.succ_pred hz).symm⟩
              have HY := Lib.hid (bundle_bad2 HZ.out HM2.out (HGB.out c hc))
              have C := Lib.hid (treeBare_any (E := E) _ ev w3 HI3.out)
              rw [hc] at C
              obtain ⟨te, x, rfl⟩ := HI3.out.some_inv hz
              clear hz hc HGB HGN HI3
              go_wp2_with fail
              refine C.out.mono ?_
              clear C
              rintro e w4 ⟨⟨u, rfl, HU⟩, rfl⟩
              go_wp2_with fail
              go_ret2
              rw [HY.out]
              exact ⟨⟨⟨#[]⟩, _, rfl, rfl, HU⟩, B3.out⟩
        · obtain rfl : k = l.length := by omega
          have HY := Lib.hid (bundle_good HZ.out HM2.out (grafts_end HGR.out))
          have HPK : Hid (packT acc = packL acc) := by show _ = _; unfold packT; rw [if_pos HAE.out]
          have HER : Hid (treeEr acc = ⟨0, none⟩) := (treeEr_zero HAE.out).1
          have C := Lib.hid (packMake_any (E := E) (.slice oo acc.length oc) acc wr HA.out.row (by omega) (right_small HAE.out).2.1 (HE.out.ext Bw2.out))
          clear HGR HT2
          go_wp2_with fail
          refine C.out.mono ?_
          clear C
          rintro e w3 ⟨⟨t, ev, rfl, HTX, HI3⟩, hb3⟩
          go_wp2_with fail
          go_ret2
          rw [HY.out]
          exact ⟨⟨t, _, rfl, by show bl t = packL acc; rw [← HPK.out]; exact HTX.out, by show IsErr _ _ _ ⟨0, none⟩; rw [← HER.out]; exact HI3.out⟩, Bw2.out.trans (hb3.mono Bw2.out.size)⟩
end Go.Proofs.YtgchgdkpipanjaaGreatDoor

namespace Go.Proofs.YtgchgdkpipanjaaGreatDoor
open Go Go.RowKit Go.Maps

/-- What lock.Split hands back. -/
def LSplitPost (E : Nat → Addr) (r : Er × List (List FileB)) (w : World) (e : Ending) (w' : World) : Prop :=
  (∃ v ev, e = .returned (.tuple #[v, ev]) ∧ Hid (IsErr E w' ev r.1) ∧ Hid (TsOwn w' w.heap.size v r.2)) ∧ Below w.heap.size w w'
theorem LSplitPost.none {E : Nat → Addr} {er : Er} {w w' : World} {ev : Value} (h : Hid (IsErr E w' ev er)) (hb : Below w.heap.size w w') : LSplitPost E (er, []) w (.returned (.tuple #[.slice none 0 0, ev])) w' :=
  ⟨⟨_, _, rfl, h, TsOwn.nil _ _⟩, hb⟩
theorem IsErr.bare_inv {E : Nat → Addr} {w : World} {u : Value} {c : Nat} (h : IsErr E w u ⟨c + 1, none⟩) : u = sentV E c ∧ c < 13 := by
  rcases h with ⟨h, _⟩ | ⟨k, hk, h, rfl⟩ | ⟨k, a, b, hk, h, _⟩
  · injection h with h _; cases h
  · injection h with h _
    obtain rfl : c = k := by omega
    exact ⟨rfl, hk⟩
  · injection h with _ h; cases h
theorem underT_right {l : List FileB} (d : ByteArray) (h : (treeEr l).code = 0) : underT l d = (⟨0, none⟩, underL l d) := by unfold underT; rw [if_neg (by rw [h]; decide)]
theorem cutP_small {d : ByteArray} {f : FileB} (h : SmallF f) : SmallF (cutP d f) := by
  unfold cutP
  split
  · exact h
  · refine ⟨?_, h.2⟩
    have : (bl f.path).length ≤ 30000 := by rw [bl_length]; exact h.1
    show (⟨((bl f.path).drop (d.size + 1)).toArray⟩ : ByteArray).size ≤ 30000
    show ((bl f.path).drop (d.size + 1)).toArray.size ≤ 30000
    rw [List.size_toArray, List.length_drop]; omega
theorem underL_small {l : List FileB} {d : ByteArray} (h : ∀ f ∈ l, SmallF f) : ∀ f ∈ underL l d, SmallF f := fun f hf => by
  unfold underL at hf
  obtain ⟨g, hg, rfl⟩ := List.mem_map.1 hf
  exact cutP_small (h g (List.mem_filter.1 hg).1)

set_option maxHeartbeats 4000000 in
set_option maxRecDepth 100000 in
theorem lockSplit_any {E : Nat → Addr} (v : Value) (l : List WantB) (s : ByteArray) (w : World) (hv : WRow w v l) (hl : l.length ≤ 100000) (hS : ∀ f ∈ l, SmallW f) (hs : s.size ≤ 1000000) (hE : REnv E w) :
    Calls Tryz.prog 66 #[v, .string s] w (LSplitPost E (splitLk l (bl s)) w) := by
  have HV := Lib.hid hv
  have HE := Lib.hid hE
  have C := Lib.hid (lockCheck_any v l w hv hl hS hE.1.1)
  obtain ⟨ao, cap, rfl⟩ := hv.len
  clear hv hE hS
  go_enter Tryz.func66, Tryz.ntmps66
  go_wp2_with fail
  refine C.out.mono ?_
  clear C
  rintro e w1 ⟨⟨ev, rfl, HER⟩, hb1⟩
  have B1 := Lib.hid hb1
  clear hb1
  by_cases hz : (lockEr l).code = 0
  rotate_left
  · obtain ⟨t, x, rfl⟩ := HER.out.some_inv hz
    have HY := Lib.hid (split_lock (s := bl s) hz)
    clear hz
    go_wp2_with fail
    go_ret2
    rw [HY.out]
    exact LSplitPost.none HER B1.out
  obtain rfl : ev = .nilIface := HER.out.nil0 hz
  have HZ := Lib.hid hz
  have OK := Lib.hid ((lockOk_iff l).1 hz)
  have hl20 := OK.out.few
  clear hz HER
  have C := Lib.hid (packRead_any s w1 hs (HE.out.ext B1.out))
  go_wp2_with fail
  refine C.out.mono ?_
  clear C
  rintro e w2 ⟨⟨av, ev, rfl, HA, HER⟩, hb2⟩
  have B2 := Lib.hid (B1.out.trans (hb2.mono B1.out.size))
  clear hb2 B1
  by_cases hz : (readEr (bl s)).code = 0
  rotate_left
  · obtain ⟨t, x, rfl⟩ := HER.out.some_inv hz
    have HY := Lib.hid (split_read HZ.out hz)
    clear hz
    go_wp2_with fail
    go_ret2
    rw [HY.out]
    exact LSplitPost.none HER B2.out
  obtain rfl : ev = .nilIface := HER.out.nil0 hz
  have HF := Lib.hid (split_from HZ.out hz)
  have HR := Lib.hid (read_back hz).1
  obtain ⟨all, hall⟩ : ∃ all, readT (bl s) = all := ⟨_, rfl⟩
  rw [hall] at HF HR HA
  have hal30 := (right_small HR.out).1
  obtain ⟨aao, acap, rfl, _⟩ := HA.out.1
  have HE2 := Lib.hid (HE.out.ext B2.out)
  clear hz HER hall HE
  go_wp2_with fail
  go_loopw [9, 30] (fun tv i wr => ∃ (k : Nat) (ts : List (List FileB)), k ≤ l.length ∧ i = .int .i64 k ∧ Hid (TsOwn wr w2.heap.size tv ts) ∧ ts.length ≤ k ∧ Hid (SStep all l k ts) ∧ Hid (Below w2.heap.size w2 wr)) (fun _ i _ => l.length - (intOf i).toNat)
  case atStart => exact ⟨0, [], Nat.zero_le _, rfl, TsOwn.nil _ _, Nat.le_refl _, SStep.zero _ _, Below.refl _ _⟩
  case round =>
    obtain ⟨k, ts, hk, rfl, HT, htl, HS, Bq⟩ := hrel
    obtain ⟨tso, tc, rfl⟩ := HT.out.shape
    by_cases hlt : k < l.length
    · obtain ⟨ba, off, rfl, hcell⟩ := HV.out.at hlt
      obtain ⟨q0, q1, q2, q3, q4⟩ := hcell wr (B2.out.trans (Bq.out.mono B2.out.size))
      have hnm := want_name (OK.out.each l[k] (List.getElem_mem hlt))
      have HS1 := Lib.hid (fun c => HS.out.tree (c := c) hlt HF.out)
      have HS2 := Lib.hid (HS.out.sum hlt HF.out)
      have HS3 := Lib.hid (HS.out.next hlt)
      clear hcell HS
      obtain ⟨f, hf⟩ : ∃ f, l[k] = f := ⟨_, rfl⟩
      rw [hf] at q0 q1 q2 q3 q4 hnm HS1 HS2 HS3
      clear hf
      obtain ⟨pf, hpf⟩ : ∃ pf, wr.heap.size = pf := ⟨_, rfl⟩
      obtain ⟨wa, hwa⟩ : ∃ wa, wr.alloc (.cells #[.string f.name, .string f.url, .string f.kind, .int .i64 f.strip, .int .i64 f.sum] 41) = wa := ⟨_, rfl⟩
      have hal : Below wr.heap.size wr wa := by rw [← hwa]; exact (Below.refl _ _).alloc (Nat.le_refl _) _
      have BX := Lib.hid (show WBox wa pf f by rw [← hwa, ← hpf]; exact WBox.new wr f)
      have Ba := Lib.hid (Bq.out.trans (hal.mono Bq.out.size))
      have HTa := Lib.hid (HT.out.ext hal)
      have HPF := Lib.hid hpf
      have HWA := Lib.hid hwa
      have C := Lib.hid (treeUnder_any (E := E) (.slice aao all.length acap) all f.name wa (HA.out.ext Ba.out).1 (by omega) (right_small HR.out).2.1 (by omega) (HE2.out.ext Ba.out).1.1)
      clear hal hpf hwa HT
      go_upto_region 11 with fail
      rw [HWA.out, HPF.out]
      clear q0 q1 q2 q3 q4
      obtain ⟨c0, c1, c2, c3, c4⟩ := BX.out.cells
      go_wp2_with fail
      refine C.out.mono ?_
      clear C c0 c1 c2 c3 c4
      rw [underT_right f.name HR.out]
      rintro e w3 ⟨⟨uv, ev, rfl, HI3, HU⟩, hb3⟩
      obtain rfl : ev = .nilIface := HI3.out.nil0 rfl
      have B3 := Lib.hid (Ba.out.trans (hb3.mono Ba.out.size))
      have BX3 := Lib.hid (BX.out.ext hb3)
      have HT3 := Lib.hid (HTa.out.ext hb3)
      have HU3 := Lib.hid (HU.out.low Ba.out.size)
      have hul := underL_len all f.name
      have HUS := Lib.hid (underL_small (d := f.name) (right_small HR.out).2.1)
      obtain ⟨u, hu⟩ : ∃ u, underL all f.name = u := ⟨_, rfl⟩
      rw [hu] at HU3 hul HUS HS1 HS2 HS3
      obtain ⟨uo, n3, uc, rfl⟩ : ∃ o n c, uv = .slice o n c := by obtain ⟨o, c, e⟩ := HU3.out.shape; exact ⟨o, _, c, e⟩
      have C := Lib.hid (packSum_any (E := E) (.slice uo n3 uc) u w3 HU3.out.row (by omega) HUS.out (HE2.out.ext B3.out).1)
      clear HI3 hb3 HU hu BX HTa
      go_wp2_with fail
      refine C.out.mono ?_
      clear C
      rintro e w4 ⟨⟨ev, rfl, HI4⟩, hb4⟩
      have B4 := Lib.hid (B3.out.trans (hb4.mono B3.out.size))
      have BX4 := Lib.hid (BX3.out.ext hb4)
      have HT4 := Lib.hid (HT3.out.ext hb4)
      have HU4 := Lib.hid (HU3.out.ext hb4)
      obtain ⟨_, _, _, _, c4⟩ := BX4.out.cells
      rw [show ((sumL (packT u) : Nat) : Int) = treeSum u from rfl]
      clear hb4 BX3 HT3 HU3
      obtain ⟨z, hzz⟩ : ∃ z, treeSum u = z := ⟨_, rfl⟩
      rw [hzz] at HS2 HS3 ⊢
      clear hzz
      by_cases hz : (treeEr u).code = 0
      · obtain rfl : ev = .nilIface := HI4.out.nil0 hz
        have HN1 := Lib.hid (HS2.out hz)
        have HN2 := Lib.hid (HS3.out hz)
        clear HI4 HS1 HS2 HS3 hz
        by_cases he : z = f.sum
        · have HN := Lib.hid (HN2.out he)
          have e1 : (z == f.sum) = true := by rw [he]; exact beq_self_eq_true _
          clear he HN1 HN2
          go_wp2_with (at_builtin; refine wpList_append_tree rfl _ _ rfl w2.heap.size (.slice tso ts.length tc) ts rfl HT4.out (.slice uo n3 uc) u HU4.out rfl (by omega) B4.out.size ?_)
          intro v6 w6 HT6 HB6'
          have B6 := Lib.hid (HB6'.out w2 B4.out)
          clear HB6' HT4 HU4 B4 c4 e1
          go_wp2_with fail
          go_roundw
          case rel => exact ⟨k + 1, ts ++ [u], by omega, by go_num, HT6, by simp; omega, HN, B6⟩
          case measure => simp [intOf]; omega
        · have HY := Lib.hid (HN1.out he)
          have e1 : (z == f.sum) = false := by rw [beq_eq_false_iff_ne]; exact he
          have e3 : w4.cell? ⟨8, 0, none⟩ = some (sentV E 11) := (HE2.out.ext B4.out).1.1.1.err 11 (by decide)
          have C := Lib.hid (treeBare_any (E := E) ⟨12, none⟩ (sentV E 11) w4 (IsErr.base E w4 11 (by decide)))
          clear he HN1 HN2 HT4 HU4
          go_wp2_with fail
          refine C.out.mono ?_
          clear C
          rintro e w5 ⟨⟨y, rfl, HYE⟩, rfl⟩
          obtain ⟨rfl, _⟩ := HYE.out.bare_inv
          clear HYE
          go_wp2_with fail
          go_ret2
          rw [HY.out]
          refine LSplitPost.none ?_ ((B2.out.trans (B4.out.mono B2.out.size)).alloc (Nat.le_trans B2.out.size B4.out.size) _)
          show IsErr _ _ _ _
          exact IsErr.fault E _ 11 (by decide) _ _ (by rw [World.cell?_alloc_at _ _ _ _ rfl]; rfl) (by rw [World.cell?_alloc_at _ _ _ _ rfl]; rfl)
      · obtain ⟨c, hc⟩ : ∃ c, (treeEr u).code = c + 1 := ⟨_, (Nat.succ_pred hz).symm⟩
        have HY := Lib.hid (HS1.out c hc)
        have C := Lib.hid (treeBare_any (E := E) _ ev w4 HI4.out)
        rw [hc] at C
        obtain ⟨te, x, rfl⟩ := HI4.out.some_inv hz
        clear hz hc HS1 HS2 HS3 HI4 HT4 HU4
        go_wp2_with fail
        refine C.out.mono ?_
        clear C
        rintro e w5 ⟨⟨y, rfl, HYE⟩, rfl⟩
        obtain ⟨rfl, hc13⟩ := HYE.out.bare_inv
        clear HYE
        go_wp2_with fail
        go_ret2
        rw [HY.out]
        refine LSplitPost.none ?_ ((B2.out.trans (B4.out.mono B2.out.size)).alloc (Nat.le_trans B2.out.size B4.out.size) _)
        show IsErr _ _ _ _
        exact IsErr.fault E _ c hc13 _ _ (by rw [World.cell?_alloc_at _ _ _ _ rfl]; rfl) (by rw [World.cell?_alloc_at _ _ _ _ rfl]; rfl)
    · obtain rfl : k = l.length := by omega
      have HY := Lib.hid (HS.out.done HF.out)
      clear HS
      go_wp2_with fail
      go_ret2
      rw [HY.out]
      exact ⟨⟨_, _, rfl, .inl ⟨rfl, rfl⟩, HT.out.low B2.out.size⟩, B2.out.trans (Bq.out.mono B2.out.size)⟩
end Go.Proofs.YtgchgdkpipanjaaGreatDoor

namespace Go.Proofs.YtgchgdkpipanjaaGreatDoor
open Go Go.RowKit Go.Maps

/-- What lock.Load hands back, and leaves. -/
def LLoadPost (E : Nat → Addr) (B b : Nat) (r : Er × HeldB) (w : World) (e : Ending) (w' : World) : Prop :=
  (∃ ev, e = .returned ev ∧ Hid (IsErr E w' ev r.1)) ∧ Hid (HeldIs w' B b r.2) ∧ Hid (KeepsU 2 b HeldRow B w w')
theorem load_split {h : HeldB} {l : List WantB} {s : List UInt8} (hc : (splitLk l s).1.code ≠ 0) : loadLk h l s = ((splitLk l s).1, h) := by unfold loadLk; rw [if_pos hc]
theorem load_from {h : HeldB} {l : List WantB} {s : List UInt8} (hc : (splitLk l s).1.code = 0) : loadLk h l s = loadGo 0 h (splitLk l s).2 := by unfold loadLk; rw [if_neg (by rw [hc]; simp)]
theorem load_bad {h hc : HeldB} {ts : List (List FileB)} {k c : Nat} (hk : k < ts.length) (hF : loadGo 0 h ts = loadGo k hc (ts.drop k)) (h0 : (putH hc ts[k]).1.code = c + 1) : loadGo 0 h ts = (⟨c + 1, some (k : Int)⟩, (putH hc ts[k]).2.2) := by
  rw [hF, loadGo_step hk, if_pos (by omega), h0]
theorem load_next {h hc : HeldB} {ts : List (List FileB)} {k : Nat} (hk : k < ts.length) (hF : loadGo 0 h ts = loadGo k hc (ts.drop k)) (h0 : (putH hc ts[k]).1.code = 0) : loadGo 0 h ts = loadGo (k + 1) (putH hc ts[k]).2.2 (ts.drop (k + 1)) := by
  rw [hF, loadGo_step hk, if_neg (by omega)]
theorem load_end {h hc : HeldB} {ts : List (List FileB)} (hF : loadGo 0 h ts = loadGo ts.length hc (ts.drop ts.length)) : loadGo 0 h ts = (⟨0, none⟩, hc) := by rw [hF, List.drop_length]; rfl

set_option maxHeartbeats 4000000 in
set_option maxRecDepth 100000 in
theorem lockLoad_any {E : Nat → Addr} {W0 : World} (B b : Nat) (h : HeldB) (v : Value) (l : List WantB) (s : ByteArray) (w : World) (hi : HeldIs w B b h) (hv : WRow w v l) (hl : l.length ≤ 100000) (hS : ∀ f ∈ l, SmallW f) (hs : s.size ≤ 1000000)
    (hE : REnv E W0) (hW : Below W0.heap.size W0 w) (hWB : W0.heap.size ≤ B) (hB : B ≤ w.heap.size) :
    Calls Tryz.prog 22 #[.pointer (some ⟨b, 0, none⟩), v, .string s] w (LLoadPost E B b (loadLk h l (bl s)) w) := by
  have HI := Lib.hid hi
  have HE := Lib.hid hE
  have HW := Lib.hid hW
  have C := Lib.hid (lockSplit_any v l s w hv hl hS hs (hE.ext hW))
  obtain ⟨ao, cap, rfl⟩ := hv.len
  clear hv hE hS hi hW
  go_enter Tryz.func22, Tryz.ntmps22
  go_wp2_with fail
  refine C.out.mono ?_
  clear C
  rintro e w1 ⟨⟨tv, ev, rfl, HER, HT⟩, hb1⟩
  have HI1 := Lib.hid (HI.out.below hb1)
  have K1 : Hid (KeepsU 2 b HeldRow B w w1) := KeepsU.of hb1 hB
  have hB1 : B ≤ w1.heap.size := Nat.le_trans hB hb1.size
  have HTL := Lib.hid (HT.out.low hB)
  clear hb1 HI HT
  by_cases hz : (splitLk l (bl s)).1.code = 0
  rotate_left
  · obtain ⟨t, x, rfl⟩ := HER.out.some_inv hz
    have HY := Lib.hid (load_split (h := h) hz)
    clear hz
    go_wp2_with fail
    go_ret
    rw [HY.out]
    exact ⟨⟨_, rfl, HER⟩, HI1, K1⟩
  obtain rfl : ev = .nilIface := HER.out.nil0 hz
  have HG := Lib.hid (load_from (h := h) hz)
  have HEA := Lib.hid (splitLk_each l (bl s))
  have hlen := splitLk_len l (bl s)
  obtain ⟨ts, hts⟩ : ∃ ts, (splitLk l (bl s)).2 = ts := ⟨_, rfl⟩
  rw [hts] at HG HEA HTL hlen
  clear hts hz HER
  obtain ⟨n, hn⟩ : ∃ n, ts.length = n := ⟨_, rfl⟩
  have HN := Lib.hid hn
  obtain ⟨tso, tc, rfl⟩ := HTL.out.shape
  rw [hn] at HTL hlen ⊢
  clear hn
  go_wp2_with fail
  go_loopw [27] (fun i wr => ∃ (k : Nat) (hc : HeldB), k ≤ n ∧ i = .int .i64 k ∧ Hid (HeldIs wr B b hc) ∧ Hid (loadGo 0 h ts = loadGo k hc (ts.drop k)) ∧ Hid (KeepsU 2 b HeldRow B w1 wr)) (fun i _ => n - (intOf i).toNat)
  case atStart => exact ⟨0, h, Nat.zero_le _, rfl, HI1, rfl, KeepsU.refl _ _ _ _ _⟩
  case round =>
    obtain ⟨k, hc, hk, rfl, HIC, HLG, K⟩ := hrel
    by_cases hlt : k < n
    · have hkt : k < ts.length := by rw [HN.out]; exact hlt
      have HTW := Lib.hid (HTL.out.keeps K.out.toKeeps heldRow_ts heldRow_files)
      obtain ⟨g, tv, rfl, hgl, hgc, hfo⟩ := HTW.out.at hkt
      have HFO := Lib.hid hfo
      have HTR : Hid ((treeEr ts[k]).code = 0) := HEA.out _ (List.getElem_mem hkt)
      have HB1 := Lib.hid (fun c => load_bad (c := c) hkt HLG.out)
      have HB2 := Lib.hid (load_next hkt HLG.out)
      obtain ⟨t, ht⟩ : ∃ t, ts[k] = t := ⟨_, rfl⟩
      rw [ht] at HFO HTR HB1 HB2
      obtain ⟨fo, fc, rfl⟩ := HFO.out.shape
      have hBr : B ≤ wr.heap.size := Nat.le_trans hB1 K.out.below.size
      have C := Lib.hid (heldPut_any (E := E) B b hc (.slice fo t.length fc) t wr (fun w' hk => FOwn.arg (hk.owns HFO.out heldRow_files)) (by have := (right_small HTR.out).1; omega) (right_small HTR.out).2.1 HIC.out hBr (HE.out.ext (HW.out.trans ((K1.out.trans K.out).below.mono hWB))).1)
      have HPL := Lib.hid (putH_le (h := hc) HTR.out)
      clear hfo ht HIC HLG HTW
      go_wp2_with fail
      refine C.out.mono ?_
      clear C hgc
      rintro e w2 ⟨⟨ev, rfl, hev⟩, hi2, k2, _⟩
      have HEV := Lib.hid hev
      have HI2 := Lib.hid hi2
      have K2 := Lib.hid (K.out.trans k2)
      clear hev hi2 k2
      obtain ⟨r, hr⟩ : ∃ r, putH hc t = r := ⟨_, rfl⟩
      rw [hr] at HPL HEV HI2 HB1 HB2 ⊢
      clear hr
      obtain ⟨⟨rc, ra⟩, rn, rh⟩ := r
      rcases HPL.out with hp | hp
      · obtain ⟨rfl, rfl⟩ : rc = 0 ∧ ra = none := by injection hp with a b; exact ⟨a, b⟩
        obtain rfl : ev = .nilIface := HEV.out.nil0 rfl
        have HL2 := Lib.hid (HB2.out rfl)
        clear hp HPL HEV HB1 HB2
        go_wp2_with fail
        go_roundw
        case rel => exact ⟨k + 1, rh, by omega, by go_num, HI2, HL2, K2⟩
        case measure => simp [intOf]; omega
      · obtain ⟨rfl, rfl⟩ : rc = 8 ∧ ra = none := by injection hp with a b; exact ⟨a, b⟩
        obtain ⟨rfl, _⟩ := HEV.out.bare_inv
        have HL2 := Lib.hid (HG.out.trans (HB1.out 7 rfl))
        clear hp HPL HEV HB1 HB2
        go_wp2_with fail
        go_ret
        rw [HL2.out]
        have hal : Below w2.heap.size w2 (w2.alloc (.cells #[.int .i64 k, sentV E 7] 83)) := (Below.refl _ _).alloc (Nat.le_refl _) _
        refine ⟨⟨_, rfl, ?_⟩, HI2.out.below hal, (K1.out.trans K2.out).trans (KeepsU.of hal (Nat.le_trans hB1 K2.out.below.size))⟩
        show IsErr _ _ _ _
        exact IsErr.fault E _ 7 (by decide) _ _ (by rw [World.cell?_alloc_at _ _ _ _ rfl]; rfl) (by rw [World.cell?_alloc_at _ _ _ _ rfl]; rfl)
    · obtain rfl : k = n := by omega
      have HY : Hid (loadLk h l (bl s) = (⟨0, none⟩, hc)) := by
        have := HLG.out
        rw [← HN.out] at this
        exact HG.out.trans (load_end this)
      clear HLG
      go_wp2_with fail
      go_ret
      rw [HY.out]
      exact ⟨⟨_, rfl, .inl ⟨rfl, rfl⟩⟩, HIC, K1.out.trans K.out⟩
theorem lockLoad_nil {E : Nat → Addr} (v : Value) (s : ByteArray) (w : World) (hE : Env E w) : Calls Tryz.prog 22 #[.pointer none, v, .string s] w fun e w' => e = .returned (sentV E 2) ∧ Below w.heap.size w w' := by
  have e1 := hE.eShape
  clear hE
  go_enter Tryz.func22, Tryz.ntmps22
  go_wp2_with fail
  go_ret
  exact ⟨rfl, Below.refl _ _⟩
theorem lockBundle_nil {E : Nat → Addr} (v : Value) (w : World) (hE : Env E w) : Calls Tryz.prog 21 #[.pointer none, v] w fun e w' => e = .returned (.tuple #[.string ⟨#[]⟩, sentV E 2]) ∧ Below w.heap.size w w' := by
  have e1 := hE.eShape
  clear hE
  go_enter Tryz.func21, Tryz.ntmps21
  go_wp2_with fail
  go_quiet (fail)
  go_wp2_with fail
  go_ret2
  exact ⟨rfl, below_drewN _ _ _⟩
end Go.Proofs.YtgchgdkpipanjaaGreatDoor
