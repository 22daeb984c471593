/- The reference's Held: in memory; NewHeld, Find, Sums, Drop: contracts. The reference's Held: Put, Drop, Copy: contracts. -/
import Derived.Test.YtcjjbpoaojjojaaGreatDoorJHeldEnds
import Derived.Test.YtcjjbpoaojjojaaGreatDoorJRowedEtc
import Derived.Laws.AppendOwnNone
import Derived.Test.YtcjjbpoaojjojaaGreatDoorJRefPacked
namespace Go.Proofs.YtcjjbpoaojjojaaGreatDoor
open Go Go.RowKit Go.Maps

theorem Tryz.infoTree : (Tryz.prog.info? 130).map (fun i => (i.zero, i.size, i.bytes)) = some (some (.agg #[.int .i64 0, .slice none 0 0]), 2, 32) := by kernel_rfl
abbrev encTree (p : Int × Value) : List Value := [.int .i64 p.1, p.2]
def RHeldRow (o : Obj) : Prop := ∃ cs fz, o = .cells cs 128 fz
theorem rheldRow_trees (cs : Array Value) : ¬ RHeldRow (.cells cs 130 (0, 0)) := by
  rintro ⟨cs', fz, h⟩
  injection h with _ h _; exact absurd h (by decide)
/-- The reference's held trees at block b: their files are read in the world W0. -/
structure RHeldAt (w : World) (B b : Nat) (h : HeldB) (lv : Value) (vs : List (Int × Value)) : Prop where
  hb : B ≤ b
  blk : w.heap[b]? = some (.cells #[.int .i64 h.most, lv] 128 (0, 0))
  row : w.ownsRow B 130 2 lv vs.length (vs.flatMap encTree)
/-- A tree's value: as the caller gave it (read in the world W0), or made here. -/
def TreeV (W0 w : World) (B : Nat) (v : Value) (l : List FileB) : Prop := FArg W0 v l ∨ FOwn w B v l
theorem TreeV.arg {W0 w : World} {B : Nat} {v : Value} {l : List FileB} (h : TreeV W0 w B v l) (hb : Below W0.heap.size W0 w) : FArg w v l := by
  rcases h with h | h
  · exact h.ext hb
  · exact FOwn.arg h
theorem TreeV.keeps {K : Obj → Prop} {W0 w w' : World} {B B2 : Nat} {v : Value} {l : List FileB} (h : TreeV W0 w B v l) (hk : Keeps K B2 w w') (h1 : ∀ cs, ¬ K (.cells cs 149 (0, 0))) : TreeV W0 w' B v l := by
  rcases h with h | h
  · exact .inl h
  · exact .inr (hk.owns h h1)
/-- The values of the trees. -/
def VS (W0 w : World) (B : Nat) : List (Int × Value) → List (Int × List FileB) → Prop
  | [], [] => True
  | v :: vs, t :: ts => v.1 = t.1 ∧ TreeV W0 w B v.2 t.2 ∧ VS W0 w B vs ts
  | _, _ => False
def RHeldIs (W0 w : World) (B b : Nat) (h : HeldB) : Prop := ∃ lv vs, RHeldAt w B b h lv vs ∧ VS W0 w B vs h.trees
theorem VS.keeps {K : Obj → Prop} {W0 w w' : World} {B B2 : Nat} (hk : Keeps K B2 w w') (h1 : ∀ cs, ¬ K (.cells cs 149 (0, 0))) : ∀ {vs ts}, VS W0 w B vs ts → VS W0 w' B vs ts
  | [], [], _ => trivial
  | _ :: _, _ :: _, h => ⟨h.1, h.2.1.keeps hk h1, VS.keeps hk h1 h.2.2⟩
theorem VS.len {W0 w : World} {B : Nat} : ∀ {vs ts}, VS W0 w B vs ts → vs.length = ts.length
  | [], [], _ => rfl
  | v :: vs, t :: ts, h => by rw [List.length_cons, List.length_cons, VS.len h.2.2]
theorem VS.sums {W0 w : World} {B : Nat} : ∀ {vs ts}, VS W0 w B vs ts → vs.map (·.1) = ts.map (·.1)
  | [], [], _ => rfl
  | v :: vs, t :: ts, h => by rw [List.map_cons, List.map_cons, VS.sums h.2.2, h.1]
theorem VS.drop {W0 w : World} {B : Nat} : ∀ {vs ts} (k : Nat), VS W0 w B vs ts → VS W0 w B (vs.drop k) (ts.drop k)
  | vs, ts, 0, h => by simpa using h
  | [], [], k + 1, _ => trivial
  | v :: vs, t :: ts, k + 1, h => VS.drop k h.2.2
theorem VS.erase {W0 w : World} {B : Nat} : ∀ {vs ts} (k : Nat), VS W0 w B vs ts → VS W0 w B (vs.eraseIdx k) (ts.eraseIdx k)
  | [], [], _, _ => trivial
  | _ :: _, _ :: _, 0, h => h.2.2
  | _ :: _, _ :: _, k + 1, h => ⟨h.1, h.2.1, VS.erase k h.2.2⟩
theorem VS.snoc {W0 w : World} {B : Nat} : ∀ {vs ts} {n : Int} {v : Value} {l : List FileB}, VS W0 w B vs ts → TreeV W0 w B v l → VS W0 w B (vs ++ [(n, v)]) (ts ++ [(n, l)])
  | [], [], _, _, _, _, hf => ⟨rfl, hf, trivial⟩
  | _ :: _, _ :: _, _, _, _, h, hf => ⟨h.1, h.2.1, VS.snoc h.2.2 hf⟩
theorem VS.at {W0 w : World} {B : Nat} : ∀ {vs ts} (k : Nat) (h1 : k < vs.length) (h2 : k < ts.length), VS W0 w B vs ts → vs[k].1 = ts[k].1 ∧ TreeV W0 w B vs[k].2 ts[k].2
  | v :: vs, t :: ts, 0, _, _, h => ⟨h.1, h.2.1⟩
  | v :: vs, t :: ts, k + 1, h1, h2, h => VS.at k (by simpa using h1) (by simpa using h2) h.2.2
theorem RHeldIs.keeps {K : Obj → Prop} {W0 w w' : World} {B B2 b : Nat} {h : HeldB} (hi : RHeldIs W0 w B b h) (hk : Keeps K B2 w w') (h1 : ∀ cs fz, ¬ K (.cells cs 128 fz)) (h2 : ∀ cs, ¬ K (.cells cs 130 (0, 0))) (h3 : ∀ cs, ¬ K (.cells cs 149 (0, 0))) : RHeldIs W0 w' B b h := by
  obtain ⟨lv, vs, hA, hV⟩ := hi
  exact ⟨lv, vs, ⟨hA.hb, hk.keep b _ hA.blk (h1 _ _), hk.owns hA.row h2⟩, hV.keeps hk h3⟩
theorem RHeldIs.below {W0 w w' : World} {B b : Nat} {h : HeldB} (hi : RHeldIs W0 w B b h) (hb : Below w.heap.size w w') : RHeldIs W0 w' B b h :=
  hi.keeps (K := fun _ => False) (Keeps.of hb (Nat.le_refl _)) (fun _ _ h => h) (fun _ h => h) (fun _ h => h)
theorem rheld_ready {w : World} {b : Nat} {a o : Value} (h : w.heap[b]? = some (.cells #[a, o] 128 (0, 0))) : w.cell? ⟨b, 0, none⟩ = some a ∧ w.cell? ⟨b, 1, none⟩ = some o ∧ w.frozen? ⟨b, 1, none⟩ = false :=
  ⟨by rw [Lib.cell_of_heap h]; rfl, by rw [Lib.cell_of_heap h]; rfl, Lib.frozen_of_heap h 1⟩
theorem rheld_set {w : World} {b : Nat} {a o : Value} (h : w.heap[b]? = some (.cells #[a, o] 128 (0, 0))) (x : Value) : (w.setCell ⟨b, 1, none⟩ x).heap[b]? = some (.cells #[a, x] 128 (0, 0)) := by
  simp [World.setCell, Array.getElem?_modify, h]
/-- The row of trees, element by element. -/
theorem trees_parts {w : World} {B : Nat} {lv : Value} {vs : List (Int × Value)} (h : w.ownsRow B 130 2 lv vs.length (vs.flatMap encTree)) :
    ∃ ao cap, lv = .slice ao vs.length cap ∧ vs.length ≤ cap ∧ cap ≤ maxLen ∧ (ao = none → vs = [] ∧ cap = 0) ∧ (∀ i, i < vs.length → ∃ g, ao = some ⟨g, 0, none⟩ ∧ g < w.heap.size ∧ ∀ k, (hk : k < vs.length) → w.cell? ⟨g, k * 2, none⟩ = some (.int .i64 vs[k].1) ∧ w.cell? ⟨g, k * 2 + 1, none⟩ = some vs[k].2) := by
  have hr := Row.of_owns (enc := encTree) (fun _ => rfl) h
  rcases h.2 with ⟨rfl, h0⟩ | ⟨g, cap, cur, rfl, hb, hg, hn, hc, _⟩
  · have hv := List.eq_nil_of_length_eq_zero h0
    subst hv
    exact ⟨none, 0, rfl, Nat.le_refl _, Nat.zero_le _, fun _ => ⟨rfl, rfl⟩, fun i hi => absurd hi (Nat.not_lt_zero _)⟩
  · refine ⟨_, cap, rfl, hn, hc, fun e => (by cases e), fun i hi => ⟨g, rfl, (Array.getElem?_eq_some_iff.1 hg).1, fun k hk => ?_⟩⟩
    rcases hr with ⟨e, _⟩ | ⟨g2, off, cap2, e, _, _, _, hcell⟩
    · cases e
    · injection e with e1 _ _
      injection e1 with e1
      injection e1 with e1 e2 _
      subst e1; subst e2
      have h0 := hcell k hk 0 (by decide)
      have h1 := hcell k hk 1 (by decide)
      rw [Nat.zero_add] at h0 h1
      exact ⟨h0, h1⟩

set_option maxRecDepth 100000 in
theorem refNewHeld_any (W0 : World) (most : Int) (w : World) : Calls Tryz.prog 47 #[.int .i64 most] w fun e w' => ∃ b, e = .returned (.pointer (some ⟨b, 0, none⟩)) ∧ RHeldIs W0 w' w.heap.size b (newH most) ∧ Below w.heap.size w w' := by
  have fin : ∀ m : Int, m = ((newH most).most : Int) → RHeldIs W0 (w.alloc (.cells #[.int .i64 m, .slice none 0 0] 128)) w.heap.size w.heap.size (newH most) := fun m hm =>
    ⟨.slice none 0 0, [], ⟨Nat.le_refl _, by rw [← hm]; exact heap_alloc_new _ _, World.ownsRow_nil _ _ _ _⟩, trivial⟩
  have FIN := Lib.hid fin
  clear fin
  go_enter Tryz.func47, Tryz.ntmps47
  by_cases h0 : most < 0
  · go_wp2_with fail
    go_ret
    exact ⟨_, rfl, FIN.out 0 (by unfold newH; simp only; omega), (Below.refl _ _).alloc (Nat.le_refl _) _⟩
  · by_cases h40 : 40 < most
    · go_wp2_with fail
      go_ret
      exact ⟨_, rfl, FIN.out 40 (by unfold newH; simp only; omega), (Below.refl _ _).alloc (Nat.le_refl _) _⟩
    · go_wp2_with fail
      go_ret
      exact ⟨_, rfl, FIN.out most (by unfold newH; simp only; omega), (Below.refl _ _).alloc (Nat.le_refl _) _⟩

set_option maxHeartbeats 1000000 in
set_option maxRecDepth 100000 in
theorem refHFind_any (W0 : World) (B b : Nat) (h : HeldB) (n : Int) (w : World) (hi : RHeldIs W0 w B b h) (hn : h.trees.length ≤ 1000) :
    Calls Tryz.prog 126 #[.pointer (some ⟨b, 0, none⟩), .int .i64 n] w fun e w' => e = .returned (.int .i64 (ixInt (ixOf n h.sums))) ∧ w' = w := by
  obtain ⟨lv, vs, hA, hV⟩ := hi
  have hl := hV.len
  have hs : vs.map (·.1) = h.sums := hV.sums
  obtain ⟨ao, cap, rfl, h1, h2, _, H3⟩ := trees_parts hA.row
  obtain ⟨_, c1, _⟩ := rheld_ready hA.blk
  have HM := Lib.hid H3
  have HS := Lib.hid hs
  have hvn : vs.length ≤ 1000 := by omega
  clear H3 hA hV hs hn hl
  go_enter Tryz.func126, Tryz.ntmps126
  go_wp2_with fail
  go_loopw [5] (fun i wr => ∃ k : Nat, k ≤ vs.length ∧ i = .int .i64 k ∧ Hid (∀ j, (hj : j < vs.length) → j < k → vs[j].1 ≠ n) ∧ wr = w) (fun i _ => vs.length - (intOf i).toNat)
  case atStart => exact ⟨0, Nat.zero_le _, rfl, (fun j _ hj => absurd hj (Nat.not_lt_zero _)), rfl⟩
  case round =>
    obtain ⟨k, hk, rfl, HJ, rfl⟩ := hrel
    by_cases hlt : k < vs.length
    · obtain ⟨g, rfl, hgl, hcell⟩ := HM.out k hlt
      obtain ⟨d0, _⟩ := hcell k hlt
      have HIX : Hid (vs[k].1 = n → ixOf n h.sums = some k) := fun e => by
        rw [← HS.out]
        have hk2 : k < (vs.map (·.1)).length := by rw [List.length_map]; exact hlt
        have := ixOf_of hk2 (fun j hj => by rw [List.getElem_map, List.getElem_map, e]; exact HJ.out j (by omega) hj)
        rw [List.getElem_map, e] at this
        exact this
      have HNX : Hid (vs[k].1 ≠ n → ∀ j, (hj : j < vs.length) → j < k + 1 → vs[j].1 ≠ n) := fun e j hj hjk => by
        by_cases ej : j = k
        · subst ej; exact e
        · exact HJ.out j hj (by omega)
      clear hcell HJ
      generalize vs[k].1 = z at d0 HIX HNX
      by_cases hz : z = n
      · have hb2 : (z == n) = true := by rw [hz]; exact beq_self_eq_true _
        have HI2 := Lib.hid (HIX.out hz)
        clear HIX HNX hz
        go_wp2_with fail
        go_ret
        exact ⟨by rw [HI2.out]; rfl, rfl⟩
      · have hb2 : (z == n) = false := beq_eq_false_iff_ne.2 hz
        have HN2 := Lib.hid (HNX.out hz)
        clear HIX HNX hz
        go_wp2_with fail
        go_roundw
        case rel => exact ⟨k + 1, by omega, by go_num, HN2, trivial⟩
        case measure => simp [intOf]; omega
    · obtain rfl : k = vs.length := by omega
      have HX : Hid (ixOf n h.sums = none) := by
        show _ = _
        rw [← HS.out]
        refine ixOf_end (fun x hx => ?_)
        obtain ⟨j, hj, rfl⟩ := List.getElem_of_mem hx
        rw [List.length_map] at hj
        rw [List.getElem_map]
        exact HJ.out j hj hj
      clear HJ
      go_wp2_with fail
      go_ret
      exact ⟨by rw [HX.out]; rfl, rfl⟩

set_option maxHeartbeats 1000000 in
set_option maxRecDepth 100000 in
theorem refHSums_any (W0 : World) (B b : Nat) (h : HeldB) (w : World) (hi : RHeldIs W0 w B b h) (hn : h.trees.length ≤ 1000) :
    Calls Tryz.prog 41 #[.pointer (some ⟨b, 0, none⟩)] w fun e w' => (∃ ov, e = .returned ov ∧ Hid (IOwn w' w.heap.size ov h.sums)) ∧ Below w.heap.size w w' := by
  obtain ⟨i0, hi0, hz0, hz1, hz2⟩ := info_parts Tryz.infoInt
  obtain ⟨lv, vs, hA, hV⟩ := hi
  have hl := hV.len
  have hs : vs.map (·.1) = h.sums := hV.sums
  obtain ⟨ao, cap, rfl, h1, h2, _, H3⟩ := trees_parts hA.row
  obtain ⟨_, c1, _⟩ := rheld_ready hA.blk
  have hbl := (Array.getElem?_eq_some_iff.1 hA.blk).1
  have HM := Lib.hid H3
  have HS := Lib.hid hs
  have hvn : vs.length ≤ 1000 := by omega
  clear H3 hA hV hs hn hl
  go_enter Tryz.func41, Tryz.ntmps41
  go_wp2_with fail
  go_loopw [3, 4] (fun ov i wr => ∃ k : Nat, k ≤ vs.length ∧ i = .int .i64 k ∧ Hid (IOwn wr w.heap.size ov ((vs.take k).map (·.1))) ∧ Below w.heap.size w wr) (fun _ i _ => vs.length - (intOf i).toNat)
  case atStart => exact ⟨0, Nat.zero_le _, rfl, World.ownsRow_nil _ _ _ _, Below.refl _ _⟩
  case round =>
    obtain ⟨k, hk, rfl, HO, hb⟩ := hrel
    have r1 := (hb.cell (p := ⟨b, 1, none⟩) hbl).trans c1
    by_cases hlt : k < vs.length
    · obtain ⟨g, rfl, hgl, hcell⟩ := HM.out k hlt
      obtain ⟨d0, _⟩ := hcell k hlt
      rw [← hb.cell (p := ⟨g, k * 2, none⟩) hgl] at d0
      obtain ⟨zs, hzs⟩ : ∃ zs, (vs.take k).map (·.1) = zs := ⟨_, rfl⟩
      have HT : Hid ((vs.take (k + 1)).map (·.1) = zs ++ [vs[k].1]) := by show _ = _; rw [List.take_add_one, List.getElem?_eq_getElem hlt, List.map_append, hzs]; rfl
      have hlk : zs.length = k := by rw [← hzs, List.length_map, List.length_take]; omega
      clear hcell
      generalize vs[k].1 = z at d0 HT
      rw [hzs] at HO
      have HOK : Hid (wr.ownsRow w.heap.size 3 1 u3 k (zs.map (Value.int .i64))) := by
        have q := HO.out
        unfold IOwn at q
        rw [hlk] at q
        exact q
      have HLK := Lib.hid hlk
      clear hzs
      have m1 : k + 1 ≤ maxLen := by rw [maxLen_eq]; omega
      have m2 : (k + 1) * 8 ≤ 140737488355328 := by omega
      have m3 : w.heap.size ≤ (wr.alloc (.cells #[.int .i64 z] 3)).heap.size := by have := hb.size; simp; omega
      obtain ⟨oo, oc, hov⟩ := IOwn.shape HO.out
      rw [hlk] at hov
      subst hov
      clear hlk
      go_wp2_with (at_builtin; refine wpList_append_own _ rfl _ _ 72 rfl w.heap.size 3 i0 (.int .i64 0) 1 8 Tryz.underlying72 hi0 hz0 hz1 hz2 rfl (by decide) (.slice oo k oc) k _ rfl (World.ownsRow.alloc HOK.out _) ⟨wr.heap.size, 0, none⟩ 1 1 [.int .i64 z] rfl rfl ?c1 ?c2 m1 m2 m3 ?_)
      case c1 =>
        intro j u hj
        match j, hj with
        | 0, hj => simp at hj; subst hj; simp [Addr.add]
      case c2 => intro u hu; rcases List.mem_singleton.1 hu with rfl; rfl
      intro v' w3 hown hgrow _
      have hown2 : Hid (IOwn w3 w.heap.size v' ((vs.take (k + 1)).map (·.1))) := by
        show World.ownsRow _ _ _ _ _ _ _
        rw [HT.out, List.length_append, HLK.out, List.map_append]
        exact hown
      have hbb : Below w.heap.size w w3 := (hb.alloc hb.size _).grown hgrow m3 (fun q hq => (World.ownsRow.lt HO.out q hq).1)
      clear hown hgrow HOK HO hb
      go_wp2_with fail
      go_roundw
      case rel => exact ⟨k + 1, by omega, by go_num, hown2, hbb⟩
      case measure => simp [intOf]; omega
    · obtain rfl : k = vs.length := by omega
      have HE2 : Hid (IOwn wr w.heap.size u3 h.sums) := by have q := HO.out; rw [List.take_length, HS.out] at q; exact q
      clear HO
      go_wp2_with fail
      go_ret
      exact ⟨⟨_, rfl, HE2⟩, hb⟩
end Go.Proofs.YtcjjbpoaojjojaaGreatDoor

namespace Go.Proofs.YtcjjbpoaojjojaaGreatDoor
open Go Go.RowKit Go.Maps

theorem encTree_len (x : Int × Value) : (encTree x).length = 2 := rfl
def Slices (v : Value) : Prop := ∃ ao n cap, v = .slice ao n cap
theorem encTree_one {vs : List (Int × Value)} (h : ∀ x ∈ vs, Slices x.2) : ∀ u ∈ vs.flatMap encTree, u.oneCell' = true := fun u hu => by
  obtain ⟨x, hx, hu⟩ := List.mem_flatMap.1 hu
  obtain ⟨ao, n, cap, e⟩ := h x hx
  unfold encTree at hu
  rw [e] at hu
  simp only [List.mem_cons, List.not_mem_nil, or_false] at hu
  rcases hu with rfl | rfl <;> rfl
theorem TreeV.slices {W0 w : World} {B : Nat} {v : Value} {l : List FileB} (h : TreeV W0 w B v l) : Slices v := by
  rcases h with ⟨⟨ao, cap, e, _⟩, _⟩ | h
  · exact ⟨ao, _, cap, e⟩
  · obtain ⟨ao, cap, e⟩ := FOwn.shape h; exact ⟨ao, _, cap, e⟩
theorem VS.slices {W0 w : World} {B : Nat} : ∀ {vs ts}, VS W0 w B vs ts → ∀ x ∈ vs, Slices x.2
  | [], [], _ => fun x hx => by cases hx
  | v :: vs, t :: ts, h => fun x hx => by
    rcases List.mem_cons.1 hx with rfl | hx
    · exact h.2.1.slices
    · exact VS.slices h.2.2 x hx
/-- Part of the row of trees as a source. -/
theorem trees_src {w : World} {base b n cap : Nat} {vs : List (Int × Value)} (h : w.ownsRow base 130 2 (.slice (some ⟨b, 0, none⟩) n cap) n (vs.flatMap encTree)) (hv : ∀ x ∈ vs, Slices x.2) (hn : vs.length = n) (i m o c : Nat) (him : i + m ≤ n) (ho : m = 0 ∨ o = i * 2) :
    Srcs w 2 (.slice (some ⟨b, o, none⟩) m c) m (((vs.drop i).take m).flatMap encTree) :=
  .inr ⟨_, c, rfl, by rw [flatMap_len encTree 2 encTree_len, List.length_take, List.length_drop]; congr 1; omega, own_news encTree_len h i m o ho, encTree_one fun x hx => hv x (List.mem_of_mem_drop (List.mem_of_mem_take hx))⟩
theorem trees_all {w : World} {base n : Nat} {lv : Value} {vs : List (Int × Value)} (h : w.ownsRow base 130 2 lv n (vs.flatMap encTree)) (hv : ∀ x ∈ vs, Slices x.2) (hn : vs.length = n) : Srcs w 2 lv n (vs.flatMap encTree) := by
  rcases h.2 with ⟨e, h0⟩ | ⟨g, cap, cur, e, hb, hg, hnc, hc, _⟩
  · subst hn
    exact .inl ⟨e, h0, by rw [List.eq_nil_of_length_eq_zero h0]; rfl⟩
  · subst e
    have := trees_src h hv hn 0 n 0 cap (by omega) (.inr (by omega))
    rw [List.drop_zero, ← hn, List.take_length] at this
    rw [← hn]; exact this
/-- The order of trees is stored. -/
theorem rheld_store {W0 w w4 : World} {B b : Nat} {h h' : HeldB} {lv v' : Value} {vs vs' : List (Int × Value)} (hi : RHeldAt w B b h lv vs) (hb : Below w.heap.size w w4) (hB : B ≤ w.heap.size)
    (hrow : w4.ownsRow B 130 2 v' vs'.length (vs'.flatMap encTree)) (hV : VS W0 w4 B vs' h'.trees) (hm : h'.most = h.most) : RHeldIs W0 (w4.setCell ⟨b, 1, none⟩ v') B b h' ∧ Keeps RHeldRow B w (w4.setCell ⟨b, 1, none⟩ v') := by
  have hbl := (Array.getElem?_eq_some_iff.1 hi.blk).1
  have hb4 := (hb.block b hbl).trans hi.blk
  have hK : Keeps RHeldRow B w4 (w4.setCell ⟨b, 1, none⟩ v') := Keeps.one (grown_set _ _ _ _) hi.hb (Nat.le_trans hB hb.size) hb4 ⟨_, _, rfl⟩
  have hf : ∀ cs, ¬ RHeldRow (.cells cs 149 (0, 0)) := fun cs ⟨cs', fz, h⟩ => by injection h with _ h _; exact absurd h (by decide)
  refine ⟨⟨v', vs', ⟨hi.hb, by rw [hm]; exact rheld_set hb4 v', hK.owns hrow rheldRow_trees⟩, hV.keeps hK hf⟩, (Keeps.of hb hB).trans hK⟩
theorem Below.vs {W0 w w' : World} {B : Nat} {vs ts} (h : VS W0 w B vs ts) (hb : Below w.heap.size w w') : VS W0 w' B vs ts := h.keeps (K := fun _ => False) (B2 := w.heap.size) (Keeps.of hb (Nat.le_refl _)) (fun _ h => h)
def RHPutPost (W0 : World) (B b : Nat) (r : Er × Int × HeldB) (w : World) (e : Ending) (w' : World) : Prop := e = .returned (.tuple #[.int .i64 r.2.1, .agg (erA r.1)]) ∧ RHeldIs W0 w' B b r.2.2 ∧ Keeps RHeldRow B w w' ∧ (r.1.code ≠ 0 → Below w.heap.size w w') ∧ ∀ k, k < w.heap.size → k ≠ b → w'.heap[k]? = w.heap[k]?

set_option maxRecDepth 100000 in
theorem trees_from (b n sc : Nat) (hn : 1 ≤ n) (hs : n ≤ sc) : ∃ o c, (∀ W : World, (Instr.slice 126 (.slice (some ⟨b, 0, none⟩) n sc) (some (.int .i64 1)) none none).run Tryz.prog W = .ok (.slice (some ⟨b, o, none⟩) (n - 1) c) W) ∧ (n - 1 = 0 ∨ o = 1 * 2) := by
  by_cases h : sc = 1
  · refine ⟨0, 0, fun W => ?_, .inl (by omega)⟩
    rw [run_slice_l W 126 (some ⟨b, 0, none⟩) n sc (by kernel_rfl) .i64 1 (by omega) (by omega)]
    simp [sliced, go_sem, h]
  · refine ⟨1 * 2, sc - 1, fun W => ?_, .inr rfl⟩
    rw [run_slice_l W 126 (some ⟨b, 0, none⟩) n sc (by kernel_rfl) .i64 1 (by omega) (by omega)]
    simp [sliced, go_sem, h]

def FaultRow (o : Obj) : Prop := ∃ cs fz, o = .cells cs 38 fz
theorem Keeps.fresh {K : Obj → Prop} {B : Nat} {w a b : World} (h : Keeps K B w a) (hb : Below w.heap.size a b) (hB : B ≤ w.heap.size) : Keeps K B w b :=
  ⟨h.below.trans (hb.mono hB), fun k o hk hn => (hb.block k (Array.getElem?_eq_some_iff.1 hk).1).trans (h.keep k o hk hn)⟩
theorem fault_keeps {w : World} {g : Nat} {a b : Value} (h : w.heap[g]? = some (.cells #[a, b] 38 (0, 0))) (x y : Value) : Keeps FaultRow g w ((w.setCell ⟨g, 0, none⟩ x).setCell ⟨g, 1, none⟩ y) := by
  have hl := (Array.getElem?_eq_some_iff.1 h).1
  have h1 : (w.setCell ⟨g, 0, none⟩ x).heap[g]? = some (.cells #[x, b] 38 (0, 0)) := by simp [World.setCell, Array.getElem?_modify, h]
  have k1 : Keeps FaultRow g w (w.setCell ⟨g, 0, none⟩ x) := Keeps.one (grown_set _ _ _ _) (Nat.le_refl _) (Nat.le_of_lt hl) h ⟨_, _, rfl⟩
  exact k1.trans (Keeps.one (grown_set _ _ _ _) (Nat.le_refl _) (Nat.le_trans (Nat.le_of_lt hl) k1.below.size) h1 ⟨_, _, rfl⟩)
theorem RHeldIs.faulted {W0 w : World} {B b g : Nat} {h : HeldB} {a c : Value} (hi : RHeldIs W0 w B b h) (hg : w.heap[g]? = some (.cells #[a, c] 38 (0, 0))) (x y : Value) : RHeldIs W0 ((w.setCell ⟨g, 0, none⟩ x).setCell ⟨g, 1, none⟩ y) B b h :=
  hi.keeps (fault_keeps hg x y) (fun cs fz ⟨_, _, h⟩ => by injection h with _ h _; exact absurd h (by decide)) (fun cs ⟨_, _, h⟩ => by injection h with _ h _; exact absurd h (by decide)) (fun cs ⟨_, _, h⟩ => by injection h with _ h _; exact absurd h (by decide))
theorem Tryz.infoTrees : (Tryz.prog.info? 130).map (fun i => (i.zero, i.size, i.bytes)) = some (some (.agg #[.int .i64 0, .slice none 0 0]), 2, 32) := Tryz.infoTree

theorem notRH (cs : Array Value) (fz : Nat × Nat) : ¬ RHeldRow (.cells cs 38 fz) := fun ⟨cs', fz', h⟩ => by injection h with _ h _; exact absurd h (by decide)
theorem ownsRow_low {w : World} {base B size n : Nat} {e : TypeId} {v : Value} {xs : List Value} (h : w.ownsRow base e size v n xs) (hB : B ≤ base) : w.ownsRow B e size v n xs := by
  refine ⟨h.1, ?_⟩
  rcases h.2 with h0 | ⟨g, cap, cur, hv, hb, hr⟩
  · exact .inl h0
  · exact .inr ⟨g, cap, cur, hv, Nat.le_trans hB hb, hr⟩

set_option maxHeartbeats 4000000 in
set_option maxRecDepth 100000 in
theorem refHPut_any {W0 : World} (B b : Nat) (hh : HeldB) (v : Value) (l : List FileB) (w : World) (hW : Below W0.heap.size W0 w) (hv : TreeV W0 w B v l) (hl : l.length ≤ 10000) (hS : ∀ f ∈ l, SmallF f) (hi : RHeldIs W0 w B b hh) (hn : hh.trees.length ≤ 1000) (hBw : B ≤ w.heap.size) :
    Calls Tryz.prog 105 #[.pointer (some ⟨b, 0, none⟩), v] w (RHPutPost W0 B b (putH hh l) w) := by
  obtain ⟨i0, hi0, hz0, hz1, hz2⟩ := info_parts Tryz.infoTrees
  obtain ⟨g, hg⟩ : ∃ g, w.heap.size = g := ⟨_, rfl⟩
  obtain ⟨wg, hwg⟩ : ∃ wg, w.alloc (.cells #[.int .i64 0, .int .i64 0] 38) = wg := ⟨_, rfl⟩
  have hal : Below w.heap.size w wg := by rw [← hwg]; exact (Below.refl _ _).alloc (Nat.le_refl _) _
  have hA : wg.heap[g]? = some (.cells #[.int .i64 0, .int .i64 0] 38 (0, 0)) := by rw [← hwg, ← hg]; exact heap_alloc_new _ _
  have hgl : g < wg.heap.size := (Array.getElem?_eq_some_iff.1 hA).1
  have hgw : w.heap.size ≤ g := Nat.le_of_eq hg
  have C := Lib.hid (refTreeSum_any v l wg ((hv.arg hW).1.ext hal) hl hS)
  obtain ⟨vo, vn, vc, hvs⟩ := hv.slices
  have HGB := Lib.hid hA
  have HBW := Lib.hid hal
  have HWA := Lib.hid hwg
  have HPA := Lib.hid hg
  have HV := Lib.hid hv
  have HI := Lib.hid hi
  have HWW := Lib.hid hW
  subst hvs
  clear hA hal hwg hg hv hi hS hW
  go_enter Tryz.func105, Tryz.ntmps105
  go_wp2_with fail
  rw [HWA.out, HPA.out]
  refine C.out.mono ?_
  clear C
  rintro e w1 ⟨rfl, hb1⟩
  have hbw1 : Below w.heap.size w w1 := HBW.out.trans (hb1.mono HBW.out.size)
  have hg1 : w1.heap[g]? = some (.cells #[.int .i64 0, .int .i64 0] 38 (0, 0)) := (hb1.block g hgl).trans HGB.out
  obtain ⟨er, her⟩ : ∃ er, treeEr l = er := ⟨_, rfl⟩
  have HER := Lib.hid her
  rw [her]
  unfold erA
  obtain ⟨c, hc⟩ : ∃ c : Int, (er.code : Int) = c := ⟨_, rfl⟩
  have hc0 : 0 ≤ c := by omega
  obtain ⟨a, ha⟩ : ∃ a : Int, er.at?.getD (-1) = a := ⟨_, rfl⟩
  rw [hc, ha]
  have HEA : Hid (erA (treeEr l) = #[.int .i64 c, .int .i64 a]) := by show _ = _; rw [her]; unfold erA; rw [hc, ha]
  have HTC : Hid (((treeEr l).code : Int) = c) := by show _ = _; rw [her, hc]
  clear her hc ha
  obtain ⟨q, hq⟩ : ∃ q, w1.heap.size = q := ⟨_, rfl⟩
  obtain ⟨w2, hw2⟩ : ∃ w2, w1.alloc (.cells #[.int .i64 c, .int .i64 a] 38) = w2 := ⟨_, rfl⟩
  have hal2 : Below w1.heap.size w1 w2 := by rw [← hw2]; exact (Below.refl _ _).alloc (Nat.le_refl _) _
  have hA2 : w2.heap[q]? = some (.cells #[.int .i64 c, .int .i64 a] 38 (0, 0)) := by rw [← hw2, ← hq]; exact heap_alloc_new _ _
  have hg2 : w2.heap[g]? = some (.cells #[.int .i64 0, .int .i64 0] 38 (0, 0)) := (hal2.block g (Array.getElem?_eq_some_iff.1 hg1).1).trans hg1
  have hbw2 : Below w.heap.size w w2 := hbw1.trans (hal2.mono hbw1.size)
  have HW2 := Lib.hid hw2
  have HQ := Lib.hid hq
  obtain ⟨z, hz⟩ : ∃ z : Int, ((sumL (packT l) : Nat) : Int) = z := ⟨_, rfl⟩
  have HZ : Hid (treeSum l = z) := by show _ = _; rw [← hz]; rfl
  rw [hz]
  clear hw2 hq hal2 hg1 hb1 hbw1 hz
  have HI2 := Lib.hid (HI.out.below hbw2)
  have HA2 := Lib.hid hA2
  have HG2 := Lib.hid hg2
  have d0 : w2.cell? ⟨q, 0, none⟩ = some (.int .i64 c) := by rw [Lib.cell_of_heap hA2]; rfl
  have d1 : w2.cell? ⟨q, 1, none⟩ = some (.int .i64 a) := by rw [Lib.cell_of_heap hA2]; rfl
  have f0 : w2.frozen? ⟨g, 0, none⟩ = false := Lib.frozen_of_heap hg2 0
  have f1 : w2.frozen? ⟨g, 1, none⟩ = false := Lib.frozen_of_heap hg2 1
  have e0 : w2.cell? ⟨g, 0, none⟩ = some (.int .i64 0) := by rw [Lib.cell_of_heap hg2]; rfl
  have e1 : w2.cell? ⟨g, 1, none⟩ = some (.int .i64 0) := by rw [Lib.cell_of_heap hg2]; rfl
  clear hA2 hg2
  rcases Int.lt_or_eq_of_le hc0 with hpos | rfl
  case inl =>
    have HR : Hid (putH hh l = (treeEr l, 0, hh)) := by show _ = _; unfold putH; rw [if_pos (by have := HTC.out; omega)]
    obtain ⟨s0, s1, s2⟩ := fault_store HG2.out (.int .i64 c) (.int .i64 a) hgw
    have S0 := Lib.hid s0
    have S1 := Lib.hid s1
    have S2 := Lib.hid s2
    clear s0 s1 s2
    go_wp2_with fail
    rw [HW2.out, HQ.out]
    go_region
    all_goals
      go_wp2_with fail
      exact bodyPost_ret (v := .tuple #[.int .i64 0, .agg #[.int .i64 c, .int .i64 a]]) (by simp [results, Tryz.results105, go_sem, S0.out, S1.out]) rfl (by
        rw [HR.out]
        exact ⟨by rw [HEA.out], (HI2.out.faulted HG2.out _ _).below (below_drewN _ _ 1), ((Keeps.of hbw2 hBw).fresh S2.out hBw).fresh (below_drewN _ _ 1) hBw, fun _ => (hbw2.trans S2.out).drew, fun k hk _ => ((hbw2.trans S2.out).drew).block k hk⟩)
  case inr =>
    have HEQ : Hid (erA (⟨0, none⟩ : Er) = #[.int .i64 0, .int .i64 a]) := by
      have h0 : (treeEr l).code = 0 := by have := HTC.out; omega
      have := HEA.out
      rw [(treeEr_zero h0).1] at this
      exact this
    obtain ⟨lv, vs, hA, hV⟩ := HI2.out
    have HX := Lib.hid hA
    have HVS := Lib.hid hV
    obtain ⟨r0, r1, r2⟩ := rheld_ready hA.blk
    have hvl := hV.len
    obtain ⟨ao, cap, rfl, hlc, hlm, _, _⟩ := trees_parts hA.row
    have y0 : (w1.alloc (.cells #[.int .i64 0, .int .i64 a] 38)).cell? ⟨b, 0, none⟩ = some (.int .i64 hh.most) := by rw [HW2.out]; exact r0
    by_cases hm : hh.most = 0
    · have HR : Hid (putH hh l = (⟨8, none⟩, 0, hh)) := by show _ = _; unfold putH; rw [if_neg (by have := HTC.out; omega), if_pos hm]
      rw [hm] at r0 y0
      clear hA hV hm
      have C := Lib.hid (refBare_any 8 w2)
      go_wp2_with fail
      rw [HW2.out, HQ.out]
      go_wp2_with fail
      refine C.out.mono ?_
      clear C
      rintro e w3 ⟨rfl, hb3⟩
      have hG3 := (hb3.block g (Array.getElem?_eq_some_iff.1 HG2.out).1).trans HG2.out
      have HI3 := Lib.hid (HI2.out.below hb3)
      have hbw3 : Below w.heap.size w w3 := hbw2.trans (hb3.mono hbw2.size)
      have k2 : w3.frozen? ⟨g, 0, none⟩ = false := Lib.frozen_of_heap hG3 0
      have k3 : w3.frozen? ⟨g, 1, none⟩ = false := Lib.frozen_of_heap hG3 1
      have k4 : w3.cell? ⟨g, 0, none⟩ = some (.int .i64 0) := by rw [Lib.cell_of_heap hG3]; rfl
      have k5 : w3.cell? ⟨g, 1, none⟩ = some (.int .i64 0) := by rw [Lib.cell_of_heap hG3]; rfl
      obtain ⟨s0, s1, s2⟩ := fault_store hG3 (.int .i64 8) (.int .i64 (-1)) hgw
      have S0 := Lib.hid s0
      have S1 := Lib.hid s1
      have S2 := Lib.hid s2
      have HG3 := Lib.hid hG3
      clear s0 s1 s2 hG3
      go_wp2_with fail
      exact bodyPost_ret (v := .tuple #[.int .i64 0, .agg #[.int .i64 8, .int .i64 (-1)]]) (by simp [results, Tryz.results105, go_sem, S0.out, S1.out]) rfl (by
        rw [HR.out]
        exact ⟨rfl, HI3.out.faulted HG3.out _ _, (Keeps.of hbw3 hBw).fresh S2.out hBw, fun _ => hbw3.trans S2.out, fun k hk _ => (hbw3.trans S2.out).block k hk⟩)
    · have hmp : decide ((hh.most : Int) = 0) = false := decide_eq_false (by omega)
      have hmq : ((hh.most : Int) == 0) = false := by simp; omega
      have C := Lib.hid (refHFind_any W0 B b hh z w2 HI2.out hn)
      have HMO := Lib.hid hm
      clear hA hV hm
      go_wp2_with fail
      rw [HW2.out, HQ.out]
      go_wp2_with fail
      refine C.out.mono ?_
      clear C
      rintro e w3 ⟨rfl, hw3⟩
      have hw3' := hw3.symm
      subst hw3'
      rcases hix : ixOf z hh.sums with _ | k
      · rw [show ixInt none = -1 from rfl]
        by_cases hfull : hh.most ≤ hh.trees.length
        · have hlen : 1 ≤ vs.length := by have := HMO.out; omega
          obtain ⟨g0, rfl⟩ : ∃ g0, ao = some ⟨g0, 0, none⟩ := by
            obtain ⟨ao', cap', e, _, _, _, H⟩ := trees_parts HX.out.row
            obtain ⟨g0, e2, _⟩ := H 0 (by omega)
            injection e with e _ _
            exact ⟨g0, by rw [e, e2]⟩
          obtain ⟨o1, c1, hsl, ho1⟩ := trees_from g0 hh.trees.length cap (by omega) (by omega)
          have HSRC : Hid (Srcs w2 2 (.slice (some ⟨g0, o1, none⟩) (hh.trees.length - 1) c1) (hh.trees.length - 1) ((vs.drop 1).flatMap encTree)) := by
            have := trees_src (by have q := HX.out.row; rwa [hvl] at q) HVS.out.slices hvl 1 (hh.trees.length - 1) o1 c1 (by omega) ho1
            rwa [List.take_of_length_le (by rw [List.length_drop]; omega)] at this
          have HVL : Hid ((vs.drop 1).length = hh.trees.length - 1) := by show _ = _; rw [List.length_drop]; omega
          have HR : Hid (putH hh l = (⟨0, none⟩, z, { hh with trees := hh.trees.drop 1 ++ [(z, l)] })) := by
            show _ = _
            unfold putH
            rw [if_neg (by have := HTC.out; omega), if_neg HMO.out, HZ.out, hix, if_neg (by simp), if_pos hfull]
          clear hix
          obtain ⟨us, hus⟩ : ∃ us, vs.drop 1 = us := ⟨_, rfl⟩
          have HVD : Hid (VS W0 w2 B us (hh.trees.drop 1)) := by show VS _ _ _ _ _; rw [← hus]; exact HVS.out.drop 1
          rw [hus] at HSRC HVL
          clear hus
          have hm1 : 0 + (hh.trees.length - 1) ≤ maxLen := by rw [maxLen_eq]; omega
          have hm2 : (0 + (hh.trees.length - 1)) * 32 ≤ 140737488355328 := by omega
          go_wp2_with (at_builtin; refine wpList_append_src _ rfl _ _ 126 rfl w2.heap.size 130 i0 (.agg #[.int .i64 0, .slice none 0 0]) 2 32 Tryz.underlying126 hi0 hz0 hz1 hz2 rfl (by decide) (.slice none 0 0) 0 [] rfl (World.ownsRow_nil _ _ _ _) _ (hh.trees.length - 1) _ rfl HSRC.out hm1 hm2 (Nat.le_refl _) ?_)
          intro v8 w8 hown8 hgrow8
          have b8 : Below w2.heap.size w2 w8 := (Below.refl _ _).grown hgrow8 (Nat.le_refl _) (fun r e => by cases e)
          skip
          obtain ⟨o8, c8, hv8⟩ : ∃ ao cap, v8 = .slice ao (hh.trees.length - 1) cap := by
            rcases hown8.2 with ⟨e, h0⟩ | ⟨g', cap', _, e, _⟩
            · exact ⟨none, 0, by rw [e, h0]⟩
            · exact ⟨_, cap', e⟩
          subst hv8
          have HO8 := Lib.hid hown8
          have hwl : w2.heap.size ≤ w8.heap.size := b8.size
          have hm3 : (hh.trees.length - 1) + 1 ≤ maxLen := by rw [maxLen_eq]; omega
          have hm4 : ((hh.trees.length - 1) + 1) * 32 ≤ 140737488355328 := by omega
          have hm5 : w2.heap.size ≤ (w8.alloc (.cells #[.int .i64 z, .slice vo vn vc] 130)).heap.size := by simp; omega
          clear hown8 hgrow8
          go_wp2_with (at_builtin; refine wpList_append_own _ rfl _ _ 126 rfl w2.heap.size 130 i0 (.agg #[.int .i64 0, .slice none 0 0]) 2 32 Tryz.underlying126 hi0 hz0 hz1 hz2 rfl (by decide) _ (hh.trees.length - 1) _ rfl (World.ownsRow.alloc HO8.out _) ⟨w8.heap.size, 0, none⟩ 1 1 (encTree (z, .slice vo vn vc)) rfl rfl ?c1 ?c2 hm3 hm4 hm5 ?_)
          case c1 =>
            intro j u hj
            match j, hj with
            | 0, hj => simp at hj; subst hj; simp [Addr.add]
            | 1, hj => simp at hj; subst hj; simp [Addr.add]
          case c2 =>
            intro u hu
            simp only [encTree, List.mem_cons, List.not_mem_nil, or_false] at hu
            rcases hu with rfl | rfl <;> rfl
          intro v9 w9 hown9 hgrow9 _
          have b9 : Below w2.heap.size w2 w9 := (b8.alloc hwl _).grown hgrow9 hm5 (fun r e => (World.ownsRow.lt HO8.out r e).1)
          have hown9' : w9.ownsRow B 130 2 v9 (us ++ [(z, Value.slice vo vn vc)]).length ((us ++ [(z, Value.slice vo vn vc)]).flatMap encTree) := by
            rw [List.length_append, HVL.out, List.flatMap_append]
            have e1 : [(z, Value.slice vo vn vc)].flatMap encTree = encTree (z, .slice vo vn vc) := by simp
            rw [e1]
            exact ownsRow_low hown9 (Nat.le_trans hBw hbw2.size)
          obtain ⟨hRH, hK9⟩ := rheld_store (W0 := W0) (w4 := w9) (h' := { hh with trees := hh.trees.drop 1 ++ [(z, l)] }) HX.out b9 (Nat.le_trans hBw hbw2.size) hown9' (VS.snoc (Below.vs HVD.out b9) ((HV.out.keeps (K := fun _ => False) (Keeps.of (hbw2.trans (b9.mono hbw2.size)) (Nat.le_refl _)) (fun _ h => h)))) rfl
          have HRH := Lib.hid hRH
          have HK9 := Lib.hid hK9
          obtain ⟨ao9, n9, c9, hv9⟩ : ∃ ao n cap, v9 = .slice ao n cap := by
            rcases hown9.2 with ⟨e, h0⟩ | ⟨g', cap', _, e, _⟩
            · exact ⟨none, 0, 0, e⟩
            · exact ⟨_, _, cap', e⟩
          have hbl2 : b < w2.heap.size := (Array.getElem?_eq_some_iff.1 HX.out.blk).1
          have t1 := (b9.cell (p := ⟨b, 1, none⟩) hbl2).trans r1
          have t2 := (b9.frozen (p := ⟨b, 1, none⟩) hbl2).trans r2
          subst hv9
          have hA9 := (hK9.keep q _ HA2.out (notRH _ _))
          have hG9 := (hK9.keep g _ HG2.out (notRH _ _))
          generalize hw5 : w9.setCell ⟨b, 1, none⟩ (.slice ao9 n9 c9) = w5 at HRH HK9 hA9 hG9
          have HW5 := Lib.hid hw5
          have HU9 : Hid (∀ k, k < w2.heap.size → k ≠ b → w5.heap[k]? = w2.heap[k]?) := fun k hk hn => by rw [← hw5]; exact (Below.heap_setCell _ _ _ k hn).trans (b9.block k hk)
          have k0 : w5.cell? ⟨q, 0, none⟩ = some (.int .i64 0) := by rw [Lib.cell_of_heap hA9]; rfl
          have k1 : w5.cell? ⟨q, 1, none⟩ = some (.int .i64 a) := by rw [Lib.cell_of_heap hA9]; rfl
          have k2 : w5.frozen? ⟨g, 0, none⟩ = false := Lib.frozen_of_heap hG9 0
          have k3 : w5.frozen? ⟨g, 1, none⟩ = false := Lib.frozen_of_heap hG9 1
          have k4 : w5.cell? ⟨g, 0, none⟩ = some (.int .i64 0) := by rw [Lib.cell_of_heap hG9]; rfl
          have k5 : w5.cell? ⟨g, 1, none⟩ = some (.int .i64 0) := by rw [Lib.cell_of_heap hG9]; rfl
          obtain ⟨s0, s1, s2⟩ := fault_store hG9 (.int .i64 0) (.int .i64 a) hgw
          have S0 := Lib.hid s0
          have S1 := Lib.hid s1
          have S2 := Lib.hid s2
          have HG9 := Lib.hid hG9
          clear hRH hK9 hown9 hown9' hgrow9 hw5 hA9 hG9 s0 s1 s2 b8 b9 HO8 HSRC
          go_wp2_with fail
          rw [HW5.out]
          go_region
          all_goals
            go_wp2_with fail
            exact bodyPost_ret (v := .tuple #[.int .i64 z, .agg #[.int .i64 0, .int .i64 a]]) (by simp [results, Tryz.results105, go_sem, S0.out, S1.out]) rfl (by
              rw [HR.out]
              exact ⟨by rw [HEQ.out], (HRH.out.faulted HG9.out _ _).below (below_drewN _ _ 1), (((Keeps.of hbw2 hBw).trans HK9.out).fresh S2.out hBw).fresh (below_drewN _ _ 1) hBw, fun h => absurd rfl h, fun k hk hn => (S2.out.drew.block k hk).trans ((HU9.out k (Nat.lt_of_lt_of_le hk hbw2.size) hn).trans (hbw2.block k hk))⟩)
        · have HSRC : Hid (Srcs w2 2 (.slice ao hh.trees.length cap) hh.trees.length (vs.flatMap encTree)) := trees_all (by have q := HX.out.row; rwa [hvl] at q) HVS.out.slices hvl
          have HVL : Hid (vs.length = hh.trees.length) := hvl
          have HR : Hid (putH hh l = (⟨0, none⟩, z, { hh with trees := hh.trees ++ [(z, l)] })) := by
            show _ = _
            unfold putH
            rw [if_neg (by have := HTC.out; omega), if_neg HMO.out, HZ.out, hix, if_neg (by simp), if_neg hfull, List.drop_zero]
          clear hix
          have hm1 : 0 + hh.trees.length ≤ maxLen := by rw [maxLen_eq]; omega
          have hm2 : (0 + hh.trees.length) * 32 ≤ 140737488355328 := by omega
          go_wp2_with (at_builtin; refine wpList_append_src _ rfl _ _ 126 rfl w2.heap.size 130 i0 (.agg #[.int .i64 0, .slice none 0 0]) 2 32 Tryz.underlying126 hi0 hz0 hz1 hz2 rfl (by decide) (.slice none 0 0) 0 [] rfl (World.ownsRow_nil _ _ _ _) _ hh.trees.length _ rfl HSRC.out hm1 hm2 (Nat.le_refl _) ?_)
          intro v8 w8 hown8 hgrow8
          have b8 : Below w2.heap.size w2 w8 := (Below.refl _ _).grown hgrow8 (Nat.le_refl _) (fun r e => by cases e)
          skip
          obtain ⟨o8, c8, hv8⟩ : ∃ ao cap, v8 = .slice ao hh.trees.length cap := by
            rcases hown8.2 with ⟨e, h0⟩ | ⟨g', cap', _, e, _⟩
            · exact ⟨none, 0, by rw [e, h0]⟩
            · exact ⟨_, cap', e⟩
          subst hv8
          have HO8 := Lib.hid hown8
          have hwl : w2.heap.size ≤ w8.heap.size := b8.size
          have hm3 : hh.trees.length + 1 ≤ maxLen := by rw [maxLen_eq]; omega
          have hm4 : (hh.trees.length + 1) * 32 ≤ 140737488355328 := by omega
          have hm5 : w2.heap.size ≤ (w8.alloc (.cells #[.int .i64 z, .slice vo vn vc] 130)).heap.size := by simp; omega
          clear hown8 hgrow8
          go_wp2_with (at_builtin; refine wpList_append_own _ rfl _ _ 126 rfl w2.heap.size 130 i0 (.agg #[.int .i64 0, .slice none 0 0]) 2 32 Tryz.underlying126 hi0 hz0 hz1 hz2 rfl (by decide) _ hh.trees.length _ rfl (World.ownsRow.alloc HO8.out _) ⟨w8.heap.size, 0, none⟩ 1 1 (encTree (z, .slice vo vn vc)) rfl rfl ?c1 ?c2 hm3 hm4 hm5 ?_)
          case c1 =>
            intro j u hj
            match j, hj with
            | 0, hj => simp at hj; subst hj; simp [Addr.add]
            | 1, hj => simp at hj; subst hj; simp [Addr.add]
          case c2 =>
            intro u hu
            simp only [encTree, List.mem_cons, List.not_mem_nil, or_false] at hu
            rcases hu with rfl | rfl <;> rfl
          intro v9 w9 hown9 hgrow9 _
          have b9 : Below w2.heap.size w2 w9 := (b8.alloc hwl _).grown hgrow9 hm5 (fun r e => (World.ownsRow.lt HO8.out r e).1)
          have hown9' : w9.ownsRow B 130 2 v9 (vs ++ [(z, Value.slice vo vn vc)]).length ((vs ++ [(z, Value.slice vo vn vc)]).flatMap encTree) := by
            rw [List.length_append, HVL.out, List.flatMap_append]
            have e1 : [(z, Value.slice vo vn vc)].flatMap encTree = encTree (z, .slice vo vn vc) := by simp
            rw [e1]
            exact ownsRow_low hown9 (Nat.le_trans hBw hbw2.size)
          obtain ⟨hRH, hK9⟩ := rheld_store (W0 := W0) (w4 := w9) (h' := { hh with trees := hh.trees ++ [(z, l)] }) HX.out b9 (Nat.le_trans hBw hbw2.size) hown9' (VS.snoc (Below.vs HVS.out b9) ((HV.out.keeps (K := fun _ => False) (Keeps.of (hbw2.trans (b9.mono hbw2.size)) (Nat.le_refl _)) (fun _ h => h)))) rfl
          have HRH := Lib.hid hRH
          have HK9 := Lib.hid hK9
          obtain ⟨ao9, n9, c9, hv9⟩ : ∃ ao n cap, v9 = .slice ao n cap := by
            rcases hown9.2 with ⟨e, h0⟩ | ⟨g', cap', _, e, _⟩
            · exact ⟨none, 0, 0, e⟩
            · exact ⟨_, _, cap', e⟩
          have hbl2 : b < w2.heap.size := (Array.getElem?_eq_some_iff.1 HX.out.blk).1
          have t1 := (b9.cell (p := ⟨b, 1, none⟩) hbl2).trans r1
          have t2 := (b9.frozen (p := ⟨b, 1, none⟩) hbl2).trans r2
          subst hv9
          have hA9 := (hK9.keep q _ HA2.out (notRH _ _))
          have hG9 := (hK9.keep g _ HG2.out (notRH _ _))
          generalize hw5 : w9.setCell ⟨b, 1, none⟩ (.slice ao9 n9 c9) = w5 at HRH HK9 hA9 hG9
          have HW5 := Lib.hid hw5
          have HU9 : Hid (∀ k, k < w2.heap.size → k ≠ b → w5.heap[k]? = w2.heap[k]?) := fun k hk hn => by rw [← hw5]; exact (Below.heap_setCell _ _ _ k hn).trans (b9.block k hk)
          have k0 : w5.cell? ⟨q, 0, none⟩ = some (.int .i64 0) := by rw [Lib.cell_of_heap hA9]; rfl
          have k1 : w5.cell? ⟨q, 1, none⟩ = some (.int .i64 a) := by rw [Lib.cell_of_heap hA9]; rfl
          have k2 : w5.frozen? ⟨g, 0, none⟩ = false := Lib.frozen_of_heap hG9 0
          have k3 : w5.frozen? ⟨g, 1, none⟩ = false := Lib.frozen_of_heap hG9 1
          have k4 : w5.cell? ⟨g, 0, none⟩ = some (.int .i64 0) := by rw [Lib.cell_of_heap hG9]; rfl
          have k5 : w5.cell? ⟨g, 1, none⟩ = some (.int .i64 0) := by rw [Lib.cell_of_heap hG9]; rfl
          obtain ⟨s0, s1, s2⟩ := fault_store hG9 (.int .i64 0) (.int .i64 a) hgw
          have S0 := Lib.hid s0
          have S1 := Lib.hid s1
          have S2 := Lib.hid s2
          have HG9 := Lib.hid hG9
          clear hRH hK9 hown9 hown9' hgrow9 hw5 hA9 hG9 s0 s1 s2 b8 b9 HO8 HSRC
          go_wp2_with fail
          rw [HW5.out]
          go_region
          all_goals
            go_wp2_with fail
            exact bodyPost_ret (v := .tuple #[.int .i64 z, .agg #[.int .i64 0, .int .i64 a]]) (by simp [results, Tryz.results105, go_sem, S0.out, S1.out]) rfl (by
              rw [HR.out]
              exact ⟨by rw [HEQ.out], (HRH.out.faulted HG9.out _ _).below (below_drewN _ _ 1), (((Keeps.of hbw2 hBw).trans HK9.out).fresh S2.out hBw).fresh (below_drewN _ _ 1) hBw, fun h => absurd rfl h, fun k hk hn => (S2.out.drew.block k hk).trans ((HU9.out k (Nat.lt_of_lt_of_le hk hbw2.size) hn).trans (hbw2.block k hk))⟩)
      · rw [show ixInt (some k) = (k : Int) from rfl]
        have HR : Hid (putH hh l = (⟨0, none⟩, z, hh)) := by
          show _ = _
          unfold putH
          rw [if_neg (by have := HTC.out; omega), if_neg HMO.out, HZ.out, hix, if_pos (by simp)]
        obtain ⟨s0, s1, s2⟩ := fault_store HG2.out (.int .i64 0) (.int .i64 a) hgw
        have S0 := Lib.hid s0
        have S1 := Lib.hid s1
        have S2 := Lib.hid s2
        clear s0 s1 s2 hix
        go_wp2_with fail
        go_region
        all_goals
          go_wp2_with fail
          exact bodyPost_ret (v := .tuple #[.int .i64 z, .agg #[.int .i64 0, .int .i64 a]]) (by simp [results, Tryz.results105, go_sem, S0.out, S1.out]) rfl (by
            rw [HR.out]
            exact ⟨by rw [HEQ.out], (HI2.out.faulted HG2.out _ _).below (below_drewN _ _ 1), ((Keeps.of hbw2 hBw).fresh S2.out hBw).fresh (below_drewN _ _ 1) hBw, fun h => absurd rfl h, fun k hk _ => ((hbw2.trans S2.out).drew).block k hk⟩)
end Go.Proofs.YtcjjbpoaojjojaaGreatDoor
