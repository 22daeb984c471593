/- The stable sort at files: slices.SortedStableFunc by tree.compare: the row that is owned behind it. -/
import Derived.Test.YtgchgdkpipanjaaGreatDoorJSortEnds
import Derived.Test.YtgchgdkpipanjaaGreatDoorJSortSeq
import Derived.Test.YtgchgdkpipanjaaGreatDoorJTreePlains
import Derived.Sort.OwnSorted
namespace Go.Proofs.YtgchgdkpipanjaaGreatDoor
open Go Go.Shelf Go.RowKit Go.Lib Go.Sort

theorem flatK_files (d : Array FileB) : (flatK encFile 3 d).toList = d.toList.flatMap encFile := by
  apply List.ext_getElem?
  intro j
  by_cases hj : j < d.size * 3
  · have hi : j / 3 < d.toList.length := by rw [Array.length_toList]; omega
    have e := flatMap_at encFile 3 (fun _ => rfl) d.toList (j / 3) (j % 3) hi (by omega)
    rw [show j / 3 * 3 + j % 3 = j by omega] at e
    rw [e, Array.getElem?_toList]
    have hs : j < (flatK encFile 3 d).size := by rw [size_flatK]; exact hj
    rw [Array.getElem?_eq_getElem hs]
    have g := get_flatK encFile 3 d j hj
    rw [getElem!_pos _ j hs] at g
    rw [g, getElem!_pos d (j / 3) (by omega)]
    have hl : j % 3 < (encFile d[j / 3]).length := by show _ < 3; omega
    rw [getElem!_pos _ (j % 3) hl]
    show _ = (encFile d[j / 3])[j % 3]?
    rw [List.getElem?_eq_getElem hl]
  · rw [List.getElem?_eq_none (by rw [Array.length_toList, size_flatK]; omega), List.getElem?_eq_none (by rw [flatMap_len encFile 3 (fun _ => rfl), Array.length_toList]; omega)]
theorem heap_putId {w : World} {g n : Nat} {os : Array Obj} {cur : Array Value} {e : TypeId} {fr : Nat × Nat} (d : Array Value) (hb : w.heap[g]? = some (.cells cur e fr)) :
    (grow (putRow id (Sort.ahead w n) g 0 d) os).heap[g]? = some (.cells (putCells id 0 d cur) e fr) := by
  have hg : g < w.heap.size := (Array.getElem?_eq_some_iff.1 hb).1
  rw [heap_grow_old _ _ (by simpa using hg)]
  simp [putRow, mapBlock, Sort.ahead, Array.getElem?_modify, hb, onCells]
theorem grownBy_putId {w : World} {g n : Nat} {os : Array Obj} (d : Array Value) : w.grownBy (grow (putRow id (Sort.ahead w n) g 0 d) os) (some g) := by
  refine ⟨rfl, rfl, rfl, by simp, fun k hk hne => ?_⟩
  rw [heap_grow_old _ _ (by simpa using hk)]
  have : g ≠ k := fun e => hne (by rw [e])
  simp [putRow, mapBlock, Sort.ahead, Array.getElem?_modify, this]
theorem take_putId (cur : Array Value) (d : Array Value) (h : d.size ≤ cur.size) : (putCells id 0 d cur).toList.take d.size = d.toList := by
  apply List.ext_getElem?
  intro j
  by_cases hj : j < d.size
  · rw [List.getElem?_take_of_lt hj, Array.getElem?_toList]
    simp [putCells, hj, show j < cur.size by omega]
  · rw [List.getElem?_take_eq_none (by omega), List.getElem?_eq_none (by simp; omega)]
/-- BEHIND THE SORT the same slice owns the sorted files. -/
theorem SWK.own {w0 w : World} {base g cap : Nat} {cur : Array Value} {d : Array FileB} (S : SWF w0 g 0 d w) (hbase : base ≤ g) (hb : w0.heap[g]? = some (.cells cur 109 (0, 0))) (h1 : d.size ≤ cap) (h2 : cap ≤ maxLen) (h3 : cur.size = cap * 3) :
    FOwn w base (.slice (some ⟨g, 0, none⟩) d.size cap) d.toList ∧ w0.grownBy w (some g) := by
  obtain ⟨n, os, rfl⟩ := S
  refine ⟨?_, grownBy_putId _⟩
  show World.ownsRow _ _ _ _ _ _ _
  rw [← flatK_files, Array.length_toList]
  refine ⟨by simp, .inr ⟨g, cap, _, rfl, hbase, heap_putId _ hb, h1, h2, by simp [putCells, h3], ?_⟩⟩
  have := take_putId cur (flatK encFile 3 d) (by rw [size_flatK]; omega)
  rwa [size_flatK] at this
theorem holdsK_of_block {w : World} {g : Nat} {cur : Array Value} {e : TypeId} (d : Array FileB) (hb : w.heap[g]? = some (.cells cur e (0, 0))) (ht : cur.toList.take (d.size * 3) = d.toList.flatMap encFile) : HoldsK encFile 3 w g 0 d := by
  intro j hj
  rw [size_flatK] at hj
  refine ⟨?_, by simp [World.frozen?, hb]⟩
  have h1 : (cur.toList.take (d.size * 3))[j]? = (flatK encFile 3 d).toList[j]? := by rw [ht, flatK_files]
  rw [List.getElem?_take_of_lt hj] at h1
  simp only [World.cell?, hb, Nat.zero_add]
  simp only [Option.isSome_none, Bool.false_eq_true, if_false]
  rw [← Array.getElem?_toList, h1, Array.getElem?_toList, Array.getElem?_eq_getElem (by rw [size_flatK]; exact hj), getElem!_pos _ j (by rw [size_flatK]; exact hj)]
  rfl

/-- What tree.compare says. -/
def cfP (x y : FileB) : Int := Lib.compareBytes (bl x.path) (bl y.path)
theorem ltOf_cfP (x y : FileB) : ltOf cfP x y = decide (pLt x y) := by
  show decide (cfP x y < 0) = decide (pLt x y)
  exact decide_eq_decide.2 (cmp_lt _ _).1
theorem cfP_swo : SWO (ltOf cfP) := ⟨fun x => by rw [ltOf_cfP]; exact decide_eq_false (pLt.irrefl x), fun x y z h1 h2 => by
  rw [ltOf_cfP] at *
  exact decide_eq_true (pLt.trans (of_decide_eq_true h1) (of_decide_eq_true h2)), fun x y z h1 h2 => by
  rw [ltOf_cfP] at *
  exact decide_eq_false (pLt.ntrans (of_decide_eq_false h1) (of_decide_eq_false h2))⟩
theorem asc_of {d : Array FileB} (h : SortedIn (ltOf cfP) 0 d.size d) : Asc d.toList := by
  refine List.pairwise_iff_getElem.2 fun i j hi hj hij => ?_
  have := h i j (Nat.zero_le _) hij (by simpa using hj)
  rw [getElem!_pos d j (by simpa using hj), getElem!_pos d i (by simpa using hi), ltOf_cfP] at this
  simpa using of_decide_eq_false this
theorem perm_of {d d' : Array FileB} (h : PermIn 0 d.size d d') : d'.toList.Perm d.toList := by
  have h3 := h.2.2
  rw [Array.extract_size] at h3
  rwa [show d'.extract 0 d.size = d' by rw [← h.1]; exact Array.extract_size] at h3

set_option maxRecDepth 100000 in
theorem compare_grow (x y : FileB) (w : World) : Calls Tryz.prog 151 #[.agg (encFile x).toArray, .agg (encFile y).toArray] w fun e w' => e = .returned (.int .i64 (cfP x y)) ∧ ∃ q os', w' = grow (w.drewN q) os' := by
  go_enter Tryz.func151, Tryz.ntmps151
  go_wp2_with fail
  refine (Tryz.strings_Compare x.path y.path _).mono ?_
  rintro e w' ⟨rfl, rfl⟩
  go_wp2_with fail
  go_ret
  exact ⟨rfl, 0, _, by rw [alloc_eq_grow, alloc_eq_grow, grow_grow]; rfl⟩
theorem compare_lays (blk off size : Nat) (w : World) : CmpLays Tryz.prog 151 #[] encFile 3 cfP blk off size w := fun _ _ _ _ x y => compare_grow x y _

/-- What slices.SortedStableFunc by tree.compare leaves. -/
def SortedPost (l : List FileB) (w : World) (e : Ending) (w' : World) : Prop :=
  (∃ v m, e = .returned v ∧ Hid (FOwn w' w.heap.size v m) ∧ Hid (m.Perm l) ∧ Hid (Asc m)) ∧ Below w.heap.size w w'

set_option maxHeartbeats 1000000 in
set_option maxRecDepth 100000 in
theorem insertionNone_any (fv : Value) (cap : Nat) (w : World) : Calls Tryz.prog 244 #[.slice none 0 cap, .int .i64 0, .int .i64 0, fv] w fun e w' => e = .returned (.tuple #[]) ∧ w = w' := by
  go_enter Tryz.func244, Tryz.ntmps244
  go_wp2_with fail
  go_loopg [8] 0 (fun g1 vi wr => vi = .int .i64 1 ∧ w = wr)
  case atStart => exact ⟨rfl, rfl⟩
  case round =>
    obtain ⟨rfl, rfl⟩ := hrel
    go_wp2_with fail
    go_end0
    exact ⟨rfl, rfl⟩
set_option maxHeartbeats 1000000 in
set_option maxRecDepth 100000 in
theorem stableOne_any (fv : Value) (cap : Nat) (w : World) : Calls Tryz.prog 232 #[.slice none 0 cap, .int .i64 0, fv] w fun e w' => e = .returned (.tuple #[]) ∧ w = w' := by
  go_enter Tryz.func232, Tryz.ntmps232
  go_wp2_with fail
  go_loopg [7, 8] 0 (fun g1 va vb wr => va = .int .i64 0 ∧ vb = .int .i64 20 ∧ w = wr)
  case atStart => exact ⟨rfl, rfl, rfl⟩
  case round =>
    obtain ⟨rfl, rfl, rfl⟩ := hrel
    go_wp2_with fail
    refine (insertionNone_any fv cap w).mono ?_
    rintro e w' ⟨rfl, rfl⟩
    go_wp2_with fail
    go_loopg [6] 0 (fun g1 vb wr => vb = .int .i64 20 ∧ w = wr)
    case atStart => exact ⟨rfl, rfl⟩
    case round =>
      obtain ⟨rfl, rfl⟩ := hrel
      go_wp2_with fail
      go_end0
      exact ⟨rfl, rfl⟩
set_option maxHeartbeats 1000000 in
set_option maxRecDepth 100000 in
theorem stableNone_any (fv : Value) (cap : Nat) (w : World) : Calls Tryz.prog 200 #[.slice none 0 cap, fv] w fun e w' => e = .returned (.tuple #[]) ∧ w = w' := by
  go_enter Tryz.func200, Tryz.ntmps200
  go_wp2_with fail
  refine (stableOne_any fv cap w).mono ?_
  rintro e w' ⟨rfl, rfl⟩
  go_wp2_with fail
  go_end0
  exact ⟨rfl, rfl⟩

set_option maxHeartbeats 1000000 in
set_option maxRecDepth 100000 in
theorem sortedFiles_any (v : Value) (l : List FileB) (w : World) (hn : l.length ≤ 10000) (hv : FRow w v l) :
    Calls Tryz.prog 149 #[.func (.func 201) #[] #[.pointer (some ⟨w.heap.size, 0, none⟩)], .func (.func 151) #[] #[]] (w.alloc (.cells #[v] 48)) (SortedPost l w) := by
  have C := Lib.hid (collect_any v l w hn hv)
  have b0 : Below w.heap.size w (w.alloc (.cells #[v] 48)) := (Below.refl _ w).alloc (Nat.le_refl _) _
  clear hv
  go_enter Tryz.func149, Tryz.ntmps149
  go_wp2_with fail
  refine C.out.mono ?_
  rintro e w2 ⟨u, rfl, hu, hb2⟩
  have b2 := b0.trans (hb2.mono (by simp))
  clear C b0 hb2
  obtain ⟨ao, cap, rfl⟩ := FOwn.shape hu
  have hu2 := id hu
  rcases hu2.2 with ⟨h1, h2⟩ | ⟨g, cap', cur, h1, h2, h3, h4, h5, h6, h7⟩
  · obtain ⟨rfl, _, rfl⟩ : ao = none ∧ l.length = 0 ∧ cap = 0 := by simpa using h1
    have e0 : l = [] := List.eq_nil_of_length_eq_zero h2
    subst e0
    have HU := Lib.hid hu
    have hS := Lib.hid (stableNone_any (.func (.func 151) #[] #[]) 0 w2)
    clear hu h1 h2
    go_wp2_with fail
    refine hS.out.mono ?_
    rintro e w3 ⟨rfl, rfl⟩
    go_wp2_with fail
    go_ret
    exact ⟨⟨_, [], rfl, World.ownsRow_nil _ _ _ _, List.Perm.refl _, List.Pairwise.nil⟩, b2⟩
  · obtain ⟨rfl, rfl⟩ : ao = some ⟨g, 0, none⟩ ∧ cap = cap' := by simpa using h1
    have hH : HoldsK encFile 3 w2 g 0 l.toArray := holdsK_of_block l.toArray h3 (by simpa using h7)
    have R : RowF w2 g 0 l.toArray := ⟨fun _ => rfl, fun f u hu => by
      simp at hu
      rcases hu with rfl | rfl | rfl <;> rfl, hH, (Array.getElem?_eq_some_iff.1 h3).1⟩
    have hS := sortStable_any cfP 151 #[] (enters_of Tryz.func151 (by kernel_rfl) rfl) cfP_swo g 0 cap l.toArray w2 (compare_lays _ _ _ _) R (by simp; omega)
    rw [List.size_toArray] at hS
    have HS := Lib.hid hS
    have H3 := Lib.hid h3
    have H6 := Lib.hid h6
    clear hS R hH hu h1 h7 h3 h6
    go_wp2_with fail
    refine HS.out.mono ?_
    rintro e w3 ⟨rfl, d', k1, k2, k3⟩
    have e0 : l.toArray.size = l.length := List.size_toArray
    have ed : d'.size = l.length := by rw [k2.1, e0]
    obtain ⟨o1, o2⟩ := SWK.own k1 (base := w.heap.size) (by omega) H3.out (by rw [ed]; exact h4) h5 (by simpa using H6.out)
    have p1 : Hid (d'.toList.Perm l) := by
      show List.Perm _ _
      have := perm_of (d := l.toArray) (d' := d') (by rw [e0]; exact k2)
      simpa using this
    have p2 : Hid (Asc d'.toList) := asc_of (by rw [ed]; exact k3)
    have p3 : Hid (FOwn w3 w.heap.size (.slice (some ⟨g, 0, none⟩) l.length cap) d'.toList) := by
      show FOwn _ _ _ _
      rw [← ed]; exact o1
    have b3 : Below w.heap.size w w3 := b2.grown o2 b2.size (fun k e => by cases e; omega)
    clear k1 k2 k3 o1 o2 HS H3 H6
    go_wp2_with fail
    go_ret
    exact ⟨⟨_, _, rfl, p3, p1, p2⟩, b3⟩
end Go.Proofs.YtgchgdkpipanjaaGreatDoor
