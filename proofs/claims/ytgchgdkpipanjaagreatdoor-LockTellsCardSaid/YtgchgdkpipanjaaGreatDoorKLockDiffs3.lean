/- lock.Diff's set of names, in plain Lean. How lock.Diff puts its lines in order. package lock: Diff by its contract. -/
import Derived.Test.YtgchgdkpipanjaaGreatDoorKLockPlains
import Derived.Test.YtgchgdkpipanjaaGreatDoorKRowed
import Derived.Test.YtgchgdkpipanjaaGreatDoorKTreePlains
import Derived.Shelf.SlSortCmp.Whole1
import Derived.Sort.OwnSorted
import Derived.BigQuiet
import Derived.Test.YtgchgdkpipanjaaGreatDoorKLockAll
import Derived.Test.YtgchgdkpipanjaaGreatDoorKWantAppends
import Derived.Test.YtgchgdkpipanjaaGreatDoorKStrMap
import Derived.Maps.RangeWalk
import Derived.Sort.KeysCollected
import Derived.Test.YtgchgdkpipanjaaGreatDoorKRefPathed
import Derived.Test.YtgchgdkpipanjaaGreatDoorKRefLocks
import Derived.Test.YtgchgdkpipanjaaGreatDoorKRanged
namespace Go.Proofs.YtgchgdkpipanjaaGreatDoor
open Go

/-- Ascending lists of the same members are one. -/
theorem asc_unique {α : Type} {R : α → α → Prop} (hi : ∀ x, ¬ R x x) (ht : ∀ x y z, R x y → R y z → R x z) : ∀ {l m : List α}, l.Pairwise R → m.Pairwise R → (∀ x, x ∈ l ↔ x ∈ m) → l = m
  | [], [], _, _, _ => rfl
  | [], y :: m, _, _, h => absurd ((h y).2 (List.mem_cons_self ..)) (by simp)
  | x :: l, [], _, _, h => absurd ((h x).1 (List.mem_cons_self ..)) (by simp)
  | x :: l, y :: m, h1, h2, h => by
    have hl := List.pairwise_cons.1 h1
    have hm := List.pairwise_cons.1 h2
    have e : x = y := by
      rcases List.mem_cons.1 ((h x).1 (List.mem_cons_self ..)) with e | hx
      · exact e
      · rcases List.mem_cons.1 ((h y).2 (List.mem_cons_self ..)) with e | hy
        · exact e.symm
        · exact absurd (ht _ _ _ (hl.1 y hy) (hm.1 x hx)) (hi x)
    subst e
    congr 1
    refine asc_unique hi ht hl.2 hm.2 fun z => ?_
    constructor
    · intro hz
      rcases List.mem_cons.1 ((h z).1 (List.mem_cons_of_mem _ hz)) with rfl | hz'
      · exact absurd (hl.1 z hz) (hi z)
      · exact hz'
    · intro hz
      rcases List.mem_cons.1 ((h z).2 (List.mem_cons_of_mem _ hz)) with rfl | hz'
      · exact absurd (hm.1 z hz) (hi z)
      · exact hz'
/-- What a name's difference is. -/
def dOf (a b : List WantB) (n : ByteArray) : Option (UInt8 × ByteArray) :=
  if (findW n b).isSome = false then some (45, n) else if (findW n a).isSome = false then some (43, n)
  else if (findW n a).bind (fun i => a[i]?) = (findW n b).bind (fun k => b[k]?) then none else some (42, n)
theorem find_at {l : List WantB} {n : ByteArray} (h : (findW n l).isSome = true) : ∃ x ∈ l, x.name = n ∧ (findW n l).bind (fun i => l[i]?) = some x := by
  obtain ⟨k, hk⟩ := Option.isSome_iff_exists.1 h
  obtain ⟨h1, h2⟩ := findW_some hk
  exact ⟨l[k], List.getElem_mem h1, h2, by rw [hk]; simp [List.getElem?_eq_getElem h1]⟩
theorem find_not {l : List WantB} {n : ByteArray} (h : (findW n l).isSome = false) : ∀ x ∈ l, x.name ≠ n := by
  refine findW_none.1 ?_
  cases hq : findW n l with
  | none => rfl
  | some k => rw [hq] at h; cases h
theorem dOf_says {a b : List WantB} (ha : a.Pairwise wLt) (hb : b.Pairwise wLt) {n : ByteArray} (hn : (∃ x ∈ a, x.name = n) ∨ ∃ y ∈ b, y.name = n) (p : UInt8 × ByteArray) : dOf a b n = some p ↔ p.2 = n ∧ DiffSays a b p := by
  unfold dOf DiffSays
  cases hB : (findW n b).isSome with
  | false =>
    have nb := find_not hB
    rw [if_pos rfl]
    constructor
    · intro e
      obtain rfl := Option.some.inj e
      refine ⟨rfl, .inl ⟨rfl, ?_, nb⟩⟩
      rcases hn with h | ⟨y, hy, e⟩
      · exact h
      · exact absurd e (nb y hy)
    · rintro ⟨e, ⟨h1, _, _⟩ | ⟨_, ⟨y, hy, e2⟩, _⟩ | ⟨_, x, hx, y, hy, e1, e2, _⟩⟩
      · exact congrArg some (Prod.ext h1.symm e.symm)
      · exact absurd (e2.trans e) (nb y hy)
      · exact absurd (e2.trans e) (nb y hy)
  | true =>
    rw [if_neg (by simp)]
    obtain ⟨y, hy, ey, fy⟩ := find_at hB
    cases hA : (findW n a).isSome with
    | false =>
      have na := find_not hA
      rw [if_pos rfl]
      constructor
      · intro e
        obtain rfl := Option.some.inj e
        exact ⟨rfl, .inr (.inl ⟨rfl, ⟨y, hy, ey⟩, na⟩)⟩
      · rintro ⟨e, ⟨_, ⟨x, hx, e2⟩, _⟩ | ⟨h1, _, _⟩ | ⟨_, x, hx, z, hz, e1, e2, _⟩⟩
        · exact absurd (e2.trans e) (na x hx)
        · exact congrArg some (Prod.ext h1.symm e.symm)
        · exact absurd (e1.trans e) (na x hx)
    | true =>
      rw [if_neg (by simp)]
      obtain ⟨x, hx, ex, fx⟩ := find_at hA
      rw [fx, fy]
      by_cases hxy : x = y
      · rw [if_pos (by rw [hxy])]
        constructor
        · intro e; cases e
        · rintro ⟨e, ⟨_, _, h⟩ | ⟨_, _, h⟩ | ⟨_, x', hx', y', hy', e1, e2, hne⟩⟩
          · exact absurd (ey.trans e.symm) (h y hy)
          · exact absurd (ex.trans e.symm) (h x hx)
          · have h1 : x' = x := name_inj ha hx' hx (by rw [e1, e, ex])
            have h2 : y' = y := name_inj hb hy' hy (by rw [e2, e, ey])
            exact absurd (by rw [h1, h2, hxy]) hne
      · rw [if_neg (by simpa using hxy)]
        constructor
        · intro e
          obtain rfl := Option.some.inj e
          exact ⟨rfl, .inr (.inr ⟨rfl, x, hx, y, hy, ex, ey, hxy⟩)⟩
        · rintro ⟨e, ⟨_, _, h⟩ | ⟨_, _, h⟩ | ⟨h1, _⟩⟩
          · exact absurd (ey.trans e.symm) (h y hy)
          · exact absurd (ex.trans e.symm) (h x hx)
          · exact congrArg some (Prod.ext h1.symm e.symm)
theorem nLt.irr (p : UInt8 × ByteArray) : ¬ nLt p p := List.lt_irrefl _
theorem nLt.tr (p q r : UInt8 × ByteArray) (h : nLt p q) (k : nLt q r) : nLt p r := List.lt_trans h k
/-- The differences of the names, each met once, in any order: put in order they are the differences. -/
theorem diff_sorted {a b : List WantB} (ha : a.Pairwise wLt) (hb : b.Pairwise wLt) {ss : List ByteArray} (hm : ∀ n, n ∈ ss ↔ (∃ x ∈ a, x.name = n) ∨ ∃ y ∈ b, y.name = n) (hnd : ss.Nodup)
    {m : List (UInt8 × ByteArray)} (hp : m.Perm (ss.filterMap (dOf a b))) (hs : m.Pairwise fun p q => ¬ nLt q p) : m = diffGo a b := by
  have hmem : ∀ p, p ∈ m ↔ p ∈ diffGo a b := fun p => by
    rw [hp.mem_iff, List.mem_filterMap, diff_says a b ha hb]
    constructor
    · rintro ⟨n, hn, e⟩
      exact ((dOf_says ha hb ((hm n).1 hn) p).1 e).2
    · intro h
      have hn : (∃ x ∈ a, x.name = p.2) ∨ ∃ y ∈ b, y.name = p.2 := by
        rcases h with ⟨_, h, _⟩ | ⟨_, h, _⟩ | ⟨_, x, hx, _, _, e, _⟩
        · exact .inl h
        · exact .inr h
        · exact .inl ⟨x, hx, e⟩
      exact ⟨p.2, (hm p.2).2 hn, (dOf_says ha hb hn p).2 ⟨rfl, h⟩⟩
  have hnames : (m.map (·.2)).Nodup := by
    refine (hp.map (·.2)).nodup_iff.2 ?_
    have : ∀ (ts : List ByteArray), ts.Nodup → (∀ n ∈ ts, n ∈ ss) → ((ts.filterMap (dOf a b)).map (·.2)).Nodup := by
      intro ts
      induction ts with
      | nil => intro _ _; simp
      | cons n ts ih =>
        intro h1 h2
        have hc := List.nodup_cons.1 h1
        have ih2 := ih hc.2 (fun x hx => h2 x (List.mem_cons_of_mem _ hx))
        cases hd : dOf a b n with
        | none => rw [List.filterMap_cons_none hd]; exact ih2
        | some p =>
          rw [List.filterMap_cons_some hd, List.map_cons]
          refine List.nodup_cons.2 ⟨fun hmem2 => ?_, ih2⟩
          obtain ⟨q, hq, e⟩ := List.mem_map.1 hmem2
          obtain ⟨n2, hn2, e2⟩ := List.mem_filterMap.1 hq
          have e3 := ((dOf_says ha hb ((hm n2).1 (h2 n2 (List.mem_cons_of_mem _ hn2))) q).1 e2).1
          have e4 := ((dOf_says ha hb ((hm n).1 (h2 n (List.mem_cons_self ..))) p).1 hd).1
          have : n2 = n := by rw [← e3, ← e4]; exact e
          rw [this] at hn2
          exact hc.1 hn2
    exact this ss hnd (fun _ h => h)
  refine asc_unique nLt.irr nLt.tr ?_ (diff_strict a b ha hb) hmem
  have h2 : m.Pairwise fun p q => p.2 ≠ q.2 := List.pairwise_map.1 hnames
  refine (hs.and h2).imp fun {p q} h => ?_
  have h3 : bl p.2 ≤ bl q.2 := List.not_lt.1 h.1
  rcases List.le_iff_lt_or_eq.1 h3 with h4 | h4
  · exact h4
  · exact absurd (bl_inj h4) h.2
end Go.Proofs.YtgchgdkpipanjaaGreatDoor

namespace Go.Proofs.YtgchgdkpipanjaaGreatDoor
open Go Go.RowKit Go.Lib Go.Sort

/-- A difference as a text. -/
def dS (p : UInt8 × ByteArray) : ByteArray := ⟨(diffTx p).toArray⟩
/-- Texts of the call's own. -/
def SOwn (w : World) (base : Nat) (v : Value) (zs : List ByteArray) : Prop := w.ownsRow base 9 1 v zs.length (zs.map Value.string)
instance (p q : UInt8 × ByteArray) : Decidable (nLt p q) := inferInstanceAs (Decidable (bl p.2 < bl q.2))
def encD (p : UInt8 × ByteArray) : Value := .string (dS p)
def cfD (p q : UInt8 × ByteArray) : Int := Lib.compareBytes (bl p.2) (bl q.2)
theorem bl_dS (p : UInt8 × ByteArray) : bl (dS p) = p.1 :: 32 :: bl p.2 := rfl
theorem dS_size (p : UInt8 × ByteArray) : (dS p).size = p.2.size + 2 := by rw [← bl_length, bl_dS, List.length_cons, List.length_cons, bl_length]
theorem bl_ext (s : ByteArray) (a b : Nat) : bl (s.extract a b) = ((bl s).drop a).take (b - a) := by
  unfold bl
  rw [ByteArray.data_extract, Array.toList_extract, List.extract_eq_take_drop]
theorem dS_tail (p : UInt8 × ByteArray) : (dS p).extract 2 (dS p).size = p.2 := bl_inj (by
  rw [bl_ext, bl_dS, List.take_of_length_le (by rw [dS_size]; simp [bl_length])]
  rfl)
theorem ltOf_cfD (p q : UInt8 × ByteArray) : ltOf cfD p q = decide (nLt p q) := decide_eq_decide.2 (cmp_lt _ _).1
theorem cfD_swo : SWO (ltOf cfD) := ⟨fun x => by rw [ltOf_cfD]; exact decide_eq_false (nLt.irr x), fun x y z h1 h2 => by
  rw [ltOf_cfD] at *
  exact decide_eq_true (nLt.tr _ _ _ (of_decide_eq_true h1) (of_decide_eq_true h2)), fun x y z h1 h2 => by
  rw [ltOf_cfD] at *
  refine decide_eq_false fun h => ?_
  have a := List.not_lt.1 (of_decide_eq_false h1)
  have b := List.not_lt.1 (of_decide_eq_false h2)
  exact List.not_lt.2 (List.le_trans b a) h⟩

set_option maxRecDepth 100000 in
theorem diff1_any (p q : UInt8 × ByteArray) (w : World) : Calls Tryz.prog 49 #[.string (dS p), .string (dS q)] w fun e w' => e = .returned (.int .i64 (cfD p q)) ∧ ∃ k os', w' = grow (w.drewN k) os' := by
  have s1 := slice_from (dS p) 2 2 (by rw [dS_size]; omega) rfl
  have s2 := slice_from (dS q) 2 2 (by rw [dS_size]; omega) rfl
  have HC : Hid (∀ W, Calls Tryz.prog 50 #[.string ((dS p).extract 2 (dS p).size), .string ((dS q).extract 2 (dS q).size)] W fun e w' => e = .returned (.int .i64 (cfD p q)) ∧ w' = W) := fun W => by
    rw [dS_tail, dS_tail]
    refine (Tryz.strings_Compare p.2 q.2 W).mono ?_
    rintro e w' ⟨rfl, rfl⟩
    exact ⟨rfl, rfl⟩
  obtain ⟨x, hx⟩ : ∃ x, dS p = x := ⟨_, rfl⟩
  obtain ⟨y, hy⟩ : ∃ y, dS q = y := ⟨_, rfl⟩
  obtain ⟨c, hc⟩ : ∃ c, cfD p q = c := ⟨_, rfl⟩
  rw [hx] at s1 HC ⊢
  rw [hy] at s2 HC ⊢
  rw [hc] at HC ⊢
  clear hx hy hc
  go_enter Tryz.func49, Tryz.ntmps49
  go_wp2_with fail
  go_quiet (first | exact Calls.quiet_of_same (HC.out _))
  go_wp2_with fail
  go_ret
  exact ⟨rfl, _, #[], by rw [grow_empty]⟩

theorem heap_sortedD {w : World} {g n : Nat} {os : Array Obj} {cur : Array Value} {e : TypeId} {fr : Nat × Nat} (d : Array (UInt8 × ByteArray)) (hb : w.heap[g]? = some (.cells cur e fr)) :
    (grow (putRow encD (Sort.ahead w n) g 0 d) os).heap[g]? = some (.cells (putCells encD 0 d cur) e fr) := by
  have hg : g < w.heap.size := (Array.getElem?_eq_some_iff.1 hb).1
  rw [heap_grow_old _ _ (by simpa using hg)]
  simp [putRow, mapBlock, Sort.ahead, Array.getElem?_modify, hb, onCells]
theorem grownBy_sortedD {w : World} {g n : Nat} {os : Array Obj} (d : Array (UInt8 × ByteArray)) : w.grownBy (grow (putRow encD (Sort.ahead w n) g 0 d) os) (some g) := by
  refine ⟨rfl, rfl, rfl, by simp, fun k hk hne => ?_⟩
  rw [heap_grow_old _ _ (by simpa using hk)]
  have : g ≠ k := fun e => hne (by rw [e])
  simp [putRow, mapBlock, Sort.ahead, Array.getElem?_modify, this]
theorem take_putCellsD (cur : Array Value) (ts : List (UInt8 × ByteArray)) (h : ts.length ≤ cur.size) : (putCells encD 0 ts.toArray cur).toList.take ts.length = ts.map encD := by
  apply List.ext_getElem?
  intro j
  by_cases hj : j < ts.length
  · rw [List.getElem?_take_of_lt hj, Array.getElem?_toList]
    simp [putCells, hj, show j < cur.size by omega]
  · rw [List.getElem?_eq_none (by rw [List.length_take]; omega), List.getElem?_eq_none (by simp; omega)]
theorem holdsD {w : World} {g : Nat} {cur : Array Value} {e : TypeId} {ss : List (UInt8 × ByteArray)} (hb : w.heap[g]? = some (.cells cur e (0, 0))) (ht : cur.toList.take ss.length = ss.map encD) : Holds encD w g 0 ss.toArray := by
  intro j hj
  have hj' : j < ss.length := by simpa using hj
  refine ⟨?_, by simp [World.frozen?, hb]⟩
  have h1 : (cur.toList.take ss.length)[j]? = (ss.map encD)[j]? := by rw [ht]
  rw [List.getElem?_take_of_lt hj'] at h1
  simp only [World.cell?, hb, Nat.zero_add]
  simpa [hj'] using h1
instance diffInh : Inhabited (UInt8 × ByteArray) := ⟨(0, ⟨#[]⟩)⟩
theorem map_encD (ds : List (UInt8 × ByteArray)) : (ds.map dS).map Value.string = ds.map encD := by rw [List.map_map]; rfl
/-- The sort of the differences' lines, in a row of the call's own that has an address. -/
theorem sortDiff_any {base g cap : Nat} {cur : Array Value} {ds : List (UInt8 × ByteArray)} {w : World} (hbase : base ≤ g) (hb : w.heap[g]? = some (.cells cur 9 (0, 0))) (h1 : ds.length ≤ cap) (h2 : cap ≤ maxLen) (h3 : cur.size = cap * 1) (ht : cur.toList.take (ds.length * 1) = ds.map encD) (hlen : ds.length ≤ 1000000) (hbw : base ≤ w.heap.size) :
    Calls Tryz.prog 48 #[.slice (some ⟨g, 0, none⟩) ds.length cap, .func (.func 49) #[] #[]] w fun e w' =>
      e = .returned (.tuple #[]) ∧ (∃ ds' : List (UInt8 × ByteArray), ds'.Perm ds ∧ ds'.Pairwise (fun p q => ¬ nLt q p) ∧ ds'.length = ds.length ∧ Hid (SOwn w' base (.slice (some ⟨g, 0, none⟩) ds.length cap) (ds'.map dS))) ∧ Below base w w' := by
  rw [Nat.mul_one] at ht
  have hgl : g < w.heap.size := (Array.getElem?_eq_some_iff.1 hb).1
  have hcon := Tryz.slices_SortFunc encD (fun _ => rfl) cfD cfD_swo 49 #[] g 0 cap ds.toArray w (enters_of Tryz.func49 (by kernel_rfl) rfl) (fun _ _ _ _ x y => diff1_any x y _) (holdsD hb ht) hgl (by simp; omega)
  rw [List.size_toArray] at hcon
  refine hcon.mono ?_
  rintro e w' ⟨rfl, d', n, os, hp, hs, rfl⟩
  obtain ⟨hsz, _, hpp⟩ := hp
  have hsz : d'.size = ds.length := by simpa using hsz
  have hpl : d'.toList.length = ds.length := by rw [Array.length_toList, hsz]
  have e1 : d'.extract 0 ds.length = d' := by rw [← hsz]; exact Array.extract_size
  have e2 : ds.toArray.extract 0 ds.length = ds.toArray := by have := @Array.extract_size _ ds.toArray; rwa [List.size_toArray] at this
  rw [e1, e2] at hpp
  refine ⟨rfl, ⟨d'.toList, by simpa using hpp, ?_, hpl, ?_⟩, (Below.refl base w).grown (grownBy_sortedD d') hbw (fun k e => by cases e; exact hbase)⟩
  · rw [List.pairwise_iff_getElem]
    intro i j hi hj hij hlt
    have := hs i j (Nat.zero_le _) hij (by omega)
    rw [ltOf_cfD, getElem!_pos d' j (by rw [Array.length_toList] at hj; exact hj), getElem!_pos d' i (by rw [Array.length_toList] at hi; exact hi)] at this
    exact of_decide_eq_false this hlt
  · show World.ownsRow _ _ _ _ _ _ _
    have hd : d' = d'.toList.toArray := by simp
    refine ⟨by simp, .inr ⟨g, cap, putCells encD 0 d' cur, by rw [List.length_map, hpl], hbase, heap_sortedD d' hb, by rw [List.length_map, hpl]; exact h1, h2, by simp [putCells, h3], ?_⟩⟩
    rw [List.length_map, Nat.mul_one, map_encD, hd]
    exact take_putCellsD cur d'.toList (by rw [hpl]; omega)
end Go.Proofs.YtgchgdkpipanjaaGreatDoor

namespace Go.Proofs.YtgchgdkpipanjaaGreatDoor
open Go Go.RowKit Go.Maps

/-- What lock.Diff hands back. -/
def DiffPost (E : Nat → Addr) (r : Er × List (UInt8 × ByteArray)) (w : World) (e : Ending) (w' : World) : Prop :=
  (∃ v ev, e = .returned (.tuple #[v, ev]) ∧ Hid (IsErr E w' ev r.1) ∧ Hid (SOwn w' w.heap.size v (r.2.map dS))) ∧ Below w.heap.size w w'
theorem DiffPost.none {E : Nat → Addr} {er : Er} {w w' : World} {ev : Value} (h : Hid (IsErr E w' ev er)) (hb : Below w.heap.size w w') : DiffPost E (er, []) w (.returned (.tuple #[.slice none 0 0, ev])) w' :=
  ⟨⟨_, _, rfl, h, World.ownsRow_nil _ _ _ _⟩, hb⟩
/-- The names of the first k, as a map. -/
def nameF (l : List WantB) (k : Nat) (s : ByteArray) : Option (DataW Unit) := if (l.take k).any (fun x => decide (x.name = s)) then some (.lit (.bool true)) else none
theorem nameF_next {l : List WantB} {k : Nat} (hk : k < l.length) : (fun u => if u = l[k].name then some (DataW.lit (H := Unit) (.bool true)) else nameF l k u) = nameF l (k + 1) := by
  funext u
  unfold nameF
  rw [List.take_succ_eq_append_getElem hk, List.any_append]
  by_cases h : u = l[k].name
  · rw [if_pos h, if_pos]
    simp [h]
  · rw [if_neg h]
    have : (decide (l[k].name = u)) = false := decide_eq_false (fun e => h e.symm)
    simp [this]
theorem below_turned {B b : Nat} {w w' : World} (h : w.mapTurned w' b) (hB : B ≤ b) (hw : B ≤ w.heap.size) : Below B w w' := (Below.refl B w).grown h.grown hw (fun k e => by cases e; exact hB)

/-- A key's bytes as a text. -/
def mkB (x : List UInt8) : ByteArray := ⟨x.toArray⟩
theorem mkB_bl (s : ByteArray) : mkB (bl s) = s := by
  obtain ⟨⟨a⟩⟩ := s
  rfl
theorem bl_mkB (x : List UInt8) : bl (mkB x) = x := rfl
theorem name_mem {cc : List WantB} {n : ByteArray} : (nameF cc cc.length n).isSome = true ↔ ∃ x ∈ cc, x.name = n := by
  unfold nameF
  rw [List.take_length]
  by_cases h : cc.any (fun x => decide (x.name = n)) = true
  · rw [if_pos h]
    refine ⟨fun _ => ?_, fun _ => rfl⟩
    obtain ⟨x, h1, h2⟩ := List.any_eq_true.1 h
    exact ⟨x, h1, of_decide_eq_true h2⟩
  · rw [if_neg h]
    refine ⟨fun h2 => by (cases h2), ?_⟩
    rintro ⟨x, h1, h2⟩
    exact absurd (List.any_eq_true.2 ⟨x, h1, decide_eq_true h2⟩) h
theorem keys_mem {cc : List WantB} {D : DataW Unit} {left : Lit → Bool} {ss : List (List UInt8)} (hC : Collected D left ss) (hl : ∀ k, left k = false) (hh : ∀ s, Maps.has D (.string (bl s)) = (nameF cc cc.length s).isSome) :
    (ss.map mkB).Nodup ∧ ∀ n, n ∈ ss.map mkB ↔ ∃ x ∈ cc, x.name = n := by
  refine ⟨List.pairwise_map.2 (hC.1.imp fun hne e => hne (by have := congrArg bl e; simpa [bl_mkB] using this)), fun n => ?_⟩
  rw [← name_mem, ← hh, List.mem_map]
  constructor
  · rintro ⟨x, hx, rfl⟩
    rw [bl_mkB]
    exact ((hC.2 x).1 hx).1
  · intro h
    exact ⟨bl n, (hC.2 (bl n)).2 ⟨h, hl _⟩, mkB_bl n⟩
theorem cat_dS (c : UInt8) (n : ByteArray) : ({ data := #[c, 32] } : ByteArray) ++ n = dS (c, n) := bl_inj (by rw [bl_append, bl_dS]; rfl)
/-- What the range has gathered: the differences of the names met. -/
def dsOf (a b : List WantB) (ss : List (List UInt8)) : List (UInt8 × ByteArray) := (ss.map mkB).filterMap (dOf a b)
theorem dsOf_none {a b : List WantB} {ss : List (List UInt8)} {n : ByteArray} (h : dOf a b n = none) : dsOf a b (ss ++ [bl n]) = dsOf a b ss := by
  unfold dsOf
  rw [List.map_append, List.filterMap_append, List.map_cons, List.map_nil, mkB_bl, List.filterMap_cons_none h, List.filterMap_nil, List.append_nil]
theorem dsOf_some {a b : List WantB} {ss : List (List UInt8)} {n : ByteArray} {p : UInt8 × ByteArray} (h : dOf a b n = some p) : dsOf a b (ss ++ [bl n]) = dsOf a b ss ++ [p] := by
  unfold dsOf
  rw [List.map_append, List.filterMap_append, List.map_cons, List.map_nil, mkB_bl, List.filterMap_cons_some h, List.filterMap_nil]
theorem dsOf_len (a b : List WantB) (ss : List (List UInt8)) : (dsOf a b ss).length ≤ ss.length := by
  have := List.length_filterMap_le (dOf a b) (ss.map mkB)
  rwa [List.length_map] at this
theorem row_ne_iterD {w : World} {base : Nat} {v : Value} {n : Nat} {xs : List Value} (h : w.ownsRow base 9 1 v n xs) {P : Program} {k : TypeId} {R : Value → Option (DataW Unit × List MemPlace)} {b r m : Nat} {D : DataW Unit} {left : Lit → Bool} {cnt : Nat} (hr : w.ranges P k R b r m D left cnt) : v.ownBlock ≠ some r := by
  rcases h.2 with ⟨rfl, _⟩ | ⟨g, cap, cur, rfl, _, hb, _⟩
  · intro e; cases e
  · intro e
    injection e with e
    obtain ⟨es, clock, since, seen, c0, _, _, _, _, h4, _⟩ := hr
    rw [← e] at h4
    have := hb.symm.trans h4
    cases this
theorem row_ne_lowD {w : World} {base : Nat} {v : Value} {n : Nat} {xs : List Value} (h : w.ownsRow base 9 1 v n xs) {b : Nat} (hb : b < base) : some b ≠ v.ownBlock := fun e => by
  have := (h.lt b e.symm).1
  omega

theorem SOwn.low {w : World} {B B' : Nat} {v : Value} {zs : List ByteArray} (h : SOwn w B v zs) (hB : B' ≤ B) : SOwn w B' v zs :=
  ⟨h.1, h.2.imp id (fun ⟨g, cap, cur, e, hb, r⟩ => ⟨g, cap, cur, e, Nat.le_trans hB hb, r⟩)⟩
/-- The sort, whatever the row's value. -/
theorem sortRow_any {B : Nat} {v : Value} {ds : List (UInt8 × ByteArray)} {w : World} (HS : SOwn w B v (ds.map dS)) (hlen : ds.length ≤ 1000000) (hbw : B ≤ w.heap.size) :
    Calls Tryz.prog 48 #[v, .func (.func 49) #[] #[]] w fun e w' =>
      e = .returned (.tuple #[]) ∧ (∃ ds' : List (UInt8 × ByteArray), ds'.Perm ds ∧ ds'.Pairwise (fun p q => ¬ nLt q p) ∧ Hid (SOwn w' B v (ds'.map dS))) ∧ Below B w w' := by
  have hs : w.ownsRow B 9 1 v (ds.map dS).length ((ds.map dS).map Value.string) := HS
  rw [List.length_map, map_encD] at hs
  rcases hs.2 with ⟨hnil, h0⟩ | ⟨g, cap, cur, rfl, hbase, hb, h1, h2, h3, h4⟩
  · subst hnil
    have hd : ds = [] := List.eq_nil_of_length_eq_zero h0
    subst hd
    refine (Tryz.slices_SortFunc_none (α := Nat) none 0 _ w).mono ?_
    rintro e w' ⟨rfl, rfl⟩
    exact ⟨rfl, ⟨[], List.Perm.refl _, List.Pairwise.nil, World.ownsRow_nil _ _ _ _⟩, Below.refl _ _⟩
  · refine (sortDiff_any hbase hb h1 h2 h3 h4 hlen hbw).mono ?_
    rintro e w' ⟨rfl, ⟨ds', p1, p2, p3, p4⟩, hbb⟩
    exact ⟨rfl, ⟨ds', p1, p2, p4⟩, hbb⟩

set_option maxHeartbeats 8000000 in
set_option maxRecDepth 100000 in
theorem lockDiff_any {E : Nat → Addr} (va vb : Value) (a b : List WantB) (w : World) (hva : WArg w va a) (hvb : WArg w vb b) (hla : a.length ≤ 10000) (hlb : b.length ≤ 10000) (hSa : ∀ f ∈ a, SmallW f) (hSb : ∀ f ∈ b, SmallW f) (hE : FEnv E w) :
    Calls Tryz.prog 13 #[va, vb] w (DiffPost E (diffLk a b) w) := by
  have HA := Lib.hid hva
  have HB := Lib.hid hvb
  have HE := Lib.hid hE
  obtain ⟨ao, ac, rfl⟩ := hva.1.len
  obtain ⟨bo, bc, rfl⟩ := hvb.1.len
  have hmm := @run_makeMap Tryz.prog
  obtain ⟨h, hh⟩ : ∃ h, w.heap.size = h := ⟨_, rfl⟩
  obtain ⟨w0, hw0⟩ : ∃ w0, w.alloc (.cells #[.slice ao a.length ac, .slice bo b.length bc] 22) = w0 := ⟨_, rfl⟩
  have B0 := Lib.hid (show Below w.heap.size w w0 by rw [← hw0]; exact (Below.refl _ _).alloc (Nat.le_refl _) _)
  have hH : w0.heap[h]? = some (.cells #[.slice ao a.length ac, .slice bo b.length bc] 22 (0, 0)) := by rw [← hw0, ← hh]; exact heap_alloc_new _ _
  have HH : Hid (∀ W, Below w0.heap.size w0 W → W.cell? ⟨h, 0, none⟩ = some (.slice ao a.length ac) ∧ W.cell? ⟨h, 1, none⟩ = some (.slice bo b.length bc)) := fun W hW => by
    have h2 := (hW.block h (Array.getElem?_eq_some_iff.1 hH).1).trans hH
    exact ⟨by rw [Lib.cell_of_heap h2]; rfl, by rw [Lib.cell_of_heap h2]; rfl⟩
  have CA : Hid (∀ W, Below w.heap.size w W → Calls Tryz.prog 9 #[.slice ao a.length ac] W (LockPost E (lockEr a) W)) := fun W hW => lockCheck_any _ a W (hva.1.ext hW) (by omega) hSa (hE.ext hW)
  have CB : Hid (∀ W, Below w.heap.size w W → Calls Tryz.prog 9 #[.slice bo b.length bc] W (LockPost E (lockEr b) W)) := fun W hW => lockCheck_any _ b W (hvb.1.ext hW) (by omega) hSb (hE.ext hW)
  have HSA := Lib.hid hSa
  have HSB := Lib.hid hSb
  have HW0 := Lib.hid hw0
  have HP := Lib.hid hh
  clear hva hvb hSa hSb hE hH hw0 hh
  go_enter Tryz.func13, Tryz.ntmps13
  go_wp2_with fail
  rw [HW0.out, HP.out]
  go_loopw [20] (fun i wr => ∃ k : Nat, k ≤ 2 ∧ i = .int .i64 k ∧ Hid (0 < k → (lockEr a).code = 0) ∧ Hid (1 < k → (lockEr b).code = 0) ∧ Hid (Below w0.heap.size w0 wr)) (fun i _ => 2 - (intOf i).toNat)
  case atStart => exact ⟨0, by decide, rfl, (fun h => absurd h (by decide)), (fun h => absurd h (by decide)), Below.refl _ _⟩
  case round =>
    obtain ⟨k, hk, rfl, H1, H2, HBr⟩ := hrel
    obtain ⟨c0, c1⟩ := HH.out wr HBr.out
    have Br := Lib.hid (B0.out.trans (HBr.out.mono B0.out.size))
    have hk3 : k = 0 ∨ k = 1 ∨ k = 2 := by omega
    rcases hk3 with rfl | rfl | rfl
    · clear H1 H2
      go_wp2_with fail
      refine (CA.out wr Br.out).mono ?_
      rintro e w1 ⟨⟨ev, rfl, HI⟩, hb1⟩
      have B1 := Lib.hid (HBr.out.trans (hb1.mono HBr.out.size))
      have Bw1 := Lib.hid (Br.out.trans (hb1.mono Br.out.size))
      clear hb1 c0 c1
      by_cases hz : (lockEr a).code = 0
      · obtain rfl : ev = .nilIface := HI.out.nil0 hz
        have HZ := Lib.hid hz
        clear hz
        go_wp2_with fail
        go_roundw
        case rel => exact ⟨1, by decide, rfl, (fun _ => HZ.out), (fun h => absurd h (by decide)), B1⟩
        case measure => simp [intOf]
      · obtain ⟨t, x, rfl⟩ := HI.out.some_inv hz
        have HY : Hid (diffLk a b = (lockEr a, [])) := by show _ = _; unfold diffLk; rw [if_pos hz]
        clear hz
        go_wp2_with fail
        go_ret2
        rw [HY.out]
        exact DiffPost.none HI Bw1.out
    · have hza := H1.out (by decide)
      have HZA := Lib.hid hza
      clear H1 H2 hza
      go_wp2_with fail
      refine (CB.out wr Br.out).mono ?_
      rintro e w1 ⟨⟨ev, rfl, HI⟩, hb1⟩
      have B1 := Lib.hid (HBr.out.trans (hb1.mono HBr.out.size))
      have Bw1 := Lib.hid (Br.out.trans (hb1.mono Br.out.size))
      clear hb1 c0 c1
      by_cases hz : (lockEr b).code = 0
      · obtain rfl : ev = .nilIface := HI.out.nil0 hz
        have HZ := Lib.hid hz
        clear hz
        go_wp2_with fail
        go_roundw
        case rel => exact ⟨2, by decide, rfl, (fun _ => HZA.out), (fun _ => HZ.out), B1⟩
        case measure => simp [intOf]
      · obtain ⟨t, x, rfl⟩ := HI.out.some_inv hz
        have HY : Hid (diffLk a b = (lockEr b, [])) := by show _ = _; unfold diffLk; rw [if_neg (by rw [HZA.out]; decide), if_pos hz]
        clear hz
        go_wp2_with fail
        go_ret2
        rw [HY.out]
        exact DiffPost.none HI Bw1.out
    · have hza := H1.out (by decide)
      have hzb := H2.out (by decide)
      have OKA := Lib.hid ((lockOk_iff a).1 hza)
      have OKB := Lib.hid ((lockOk_iff b).1 hzb)
      have HY : Hid (diffLk a b = (⟨0, none⟩, diffGo a b)) := by show _ = _; unfold diffLk; rw [if_neg (by rw [hza]; decide), if_neg (by rw [hzb]; decide)]
      clear hza hzb H1 H2 c0 c1 CA CB
      obtain ⟨mb, hmb⟩ : ∃ mb, wr.heap.size = mb := ⟨_, rfl⟩
      obtain ⟨wm, hwm⟩ : ∃ wm, wr.alloc (.map #[] 0) = wm := ⟨_, rfl⟩
      have hms : wm.heap.size = mb + 1 := by rw [← hwm, ← hmb]; simp
      have HMB := Lib.hid hmb
      have HWM := Lib.hid hwm
      have M0 : Hid (MapIs RBool wm mb 0 (nameF (a ++ b) 0)) := by show MapIs _ _ _ _ _; rw [← hwm, ← hmb]; exact MapIs.made wr
      have Bm := Lib.hid (show Below w.heap.size w wm by rw [← hwm]; exact Br.out.alloc Br.out.size _)
      have hh2 : wm.heap.size = mb + 1 := hms
      obtain ⟨wc, hwc⟩ : ∃ wc, wm.alloc (.cells #[.slice ao a.length ac, .slice bo b.length bc] 22) = wc := ⟨_, rfl⟩
      have hbc : Below wm.heap.size wm wc := by rw [← hwc]; exact (Below.refl _ _).alloc (Nat.le_refl _) _
      have hHc : wc.heap[mb + 1]? = some (.cells #[.slice ao a.length ac, .slice bo b.length bc] 22 (0, 0)) := by rw [← hwc, ← hh2]; exact heap_alloc_new _ _
      have HWC := Lib.hid hwc
      have Bc := Lib.hid (Bm.out.trans (hbc.mono Bm.out.size))
      have M1 := Lib.hid (M0.out.keep (hbc.block mb (by omega)))
      have hmbw : w.heap.size ≤ mb := by rw [← hmb]; exact Br.out.size
      have hmbc : mb < wc.heap.size := by have := hbc.size; omega
      have C := Lib.hid (concatWants_any _ _ a b (mb + 1) wc _ hla hlb (HA.out.ext Bc.out) (HB.out.ext Bc.out) hHc)
      clear hmb hwm hh2 hwc hbc hHc hms M0 Bm
      go_wp2_with fail
      rw [HWM.out, HMB.out, HWC.out]
      refine C.out.mono ?_
      clear C
      rintro e wd ⟨⟨ov, rfl, HO⟩, hbd⟩
      have Bd := Lib.hid (Bc.out.trans (hbd.mono Bc.out.size))
      have M2 := Lib.hid (M1.out.keep (hbd.block mb hmbc))
      have hmO : mb < wc.heap.size := hmbc
      obtain ⟨oo, oc, rfl⟩ := HO.out.shape
      have HBD := Lib.hid hbd
      obtain ⟨cc, hcc⟩ : ∃ cc, a ++ b = cc := ⟨_, rfl⟩
      have HCC := Lib.hid hcc
      have hccl : cc.length ≤ 40 := by rw [← hcc, List.length_append]; have h1 := OKA.out.few; have h2 := OKB.out.few; omega
      have HSZ : Hid (∀ x ∈ cc, wantE x = 0) := fun x hx => by
        rw [← hcc] at hx
        rcases List.mem_append.1 hx with h | h
        · exact OKA.out.each x h
        · exact OKB.out.each x h
      have HSM : Hid (∀ x ∈ cc, SmallW x) := fun x hx => by
        rw [← hcc] at hx
        rcases List.mem_append.1 hx with h | h
        · exact HSA.out x h
        · exact HSB.out x h
      rw [hcc] at HO M2 ⊢
      clear hcc M1 hbd
      obtain ⟨wB, hwB⟩ : ∃ wB, wc.heap.size = wB := ⟨_, rfl⟩
      rw [hwB] at HO
      have hmB : mb < wB := by omega
      have hBw : w.heap.size ≤ wB := by rw [← hwB]; exact Bc.out.size
      have hBd : wB ≤ wd.heap.size := by rw [← hwB]; exact HBD.out.size
      clear hwB HBD hmbc hmO HWC HWM HMB Bc
      go_wp2_with fail
      go_loopw [36] (fun i wr2 => ∃ (k m : Nat), k ≤ cc.length ∧ i = .int .i64 k ∧ m ≤ k ∧ Hid (MapIs RBool wr2 mb m (nameF cc k)) ∧ Hid (WOwn wr2 wB (.slice oo cc.length oc) cc) ∧ wB ≤ wr2.heap.size ∧ Hid (Below w.heap.size w wr2)) (fun i _ => cc.length - (intOf i).toNat)
      case atStart => exact ⟨0, 0, Nat.zero_le _, rfl, Nat.le_refl _, M2, HO, hBd, Bd⟩
      case round =>
        rename World => wx
        clear HO M2 Bd hBd
        obtain ⟨k, m, hk, rfl, hmk, M, HO, hB2, Bx⟩ := hrel
        by_cases hlt : k < cc.length
        · obtain ⟨b', off', rfl, hcell⟩ := HO.out.row.at hlt
          obtain ⟨q0, q1, q2, q3, q4⟩ := hcell wx (Below.refl _ _)
          have hnx := nameF_next hlt
          have sz := (HSM.out cc[k] (List.getElem_mem hlt)).1
          have HNX := Lib.hid hnx
          clear hcell hnx
          obtain ⟨f, hf⟩ : ∃ f, cc[k] = f := ⟨_, rfl⟩
          rw [hf] at q0 q1 q2 q3 q4 sz HNX
          clear hf
          obtain ⟨pf, hpf⟩ : ∃ pf, wx.heap.size = pf := ⟨_, rfl⟩
          obtain ⟨wa, hwa⟩ : ∃ wa, wx.alloc (.cells #[.string f.name, .string f.url, .string f.kind, .int .i64 f.strip, .int .i64 f.sum] 41) = wa := ⟨_, rfl⟩
          have hal : Below wx.heap.size wx wa := by rw [← hwa]; exact (Below.refl _ _).alloc (Nat.le_refl _) _
          have BX := Lib.hid (show WBox wa pf f by rw [← hwa, ← hpf]; exact WBox.new wx f)
          have Ba := Lib.hid (Bx.out.trans (hal.mono Bx.out.size))
          have HOa := Lib.hid (HO.out.ext hal)
          have Ma := Lib.hid (M.out.keep (hal.block mb M.out.lt))
          have hBa : wB ≤ wa.heap.size := Nat.le_trans hB2 hal.size
          have HPF := Lib.hid hpf
          have HWA := Lib.hid hwa
          clear hal hpf hwa M HO Bx hB2
          go_upto_region 12 with fail
          rw [HWA.out, HPF.out]
          clear q0 q1 q2 q3 q4
          obtain ⟨c0, _, _, _, _⟩ := BX.out.cells
          obtain ⟨D, d1, d2, d3, d4⟩ := Ma.out
          have Hd := Lib.hid d1
          have Hde := Lib.hid (And.intro d2 (And.intro d3 d4))
          have hltm : m < maxLen := by unfold maxLen; omega
          have hkl := keyLit f.name (by unfold maxLen; omega)
          clear d1 d2 d3 d4 BX
          go_wp2_with (first
            | (at_mapUpdate; refine wpList_mapUpdate_in _ rfl _ _ _ 90 rfl 9 4 Tryz.strKeyed Tryz.underlying90 RBool mb m D rfl Hd.out hltm _ _ _ rfl rfl hkl (.lit (.bool true)) [] (plainElem_bool Tryz.underlying4 _) ?_; intro w2 hown2 hturn2)
            | go_in)
          have M3 := MapIs.put Hd.out Hde.out.1 Hde.out.2.1 Hde.out.2.2 f.name _ hown2
          rw [HNX.out] at M3
          have M4 := Lib.hid M3
          have B3 := Lib.hid (Ba.out.trans (below_turned hturn2 hmbw Ba.out.size))
          have HO3 : Hid (WOwn w2 wB (.slice (some ⟨b', off', none⟩) cc.length oc) cc) := by
            refine World.ownsRow.kept HOa.out hturn2.grown ?_
            cases hv : (Value.slice (some (⟨b', off', none⟩ : Addr)) cc.length oc).ownBlock with
            | none => exact .inl rfl
            | some g => exact .inr (fun e => by have := (World.ownsRow.lt HOa.out g hv).1; injection e with e; omega)
          have hB3 : wB ≤ w2.heap.size := Nat.le_trans hBa hturn2.grown.size
          clear M3 hown2 hturn2 c0
          go_wp2_with fail
          go_roundw
          case rel => exact ⟨k + 1, _, by omega, by go_num, (by split <;> omega), M4, HO3, hB3, B3⟩
          case measure => simp [intOf]; omega
        · obtain rfl : k = cc.length := by omega
          obtain ⟨D, d1, d2, d3, d4⟩ := M.out
          have Hd := Lib.hid d1
          have HH3 := Lib.hid d3
          have HSD := Lib.hid d2
          obtain ⟨i0, hi0, hz0, hz1, hz2⟩ := info_parts Tryz.infoStr
          obtain ⟨rb, hrb⟩ : ∃ rb, wx.heap.size = rb := ⟨_, rfl⟩
          have HRB := Lib.hid hrb
          clear d2 d3 d4 d1 M HO HSZ hrb
          go_wp2_with (first
            | (at_range; refine wpList_range_own _ rfl _ 90 rfl 9 4 Tryz.strKeyed Tryz.underlying90 RBool mb m D rfl Hd.out ?_; intro w3 hrg0 hg0 hs0)
            | go_in)
          rw [HRB.out] at hrg0 ⊢
          have R0 := Lib.hid hrg0
          have B0' := Lib.hid (Bx.out.grown hg0 Bx.out.size (fun j hj => by cases hj))
          have hB0 : wB ≤ w3.heap.size := Nat.le_trans hB2 hg0.size
          have hsz0 : Maps.size D ≤ m := Nat.le_of_eq HSD.out
          have hBrb : wB ≤ rb := by rw [← HRB.out]; exact hB2
          clear hrg0 hg0 hs0 Bx hB2 HRB
          go_wp2_with fail
          go_frame
          go_loopw [12] (fun v wr3 => ∃ (left : Lit → Bool) (cnt : Nat) (ss : List (List UInt8)), Hid (wr3.ranges Tryz.prog 9 RBool mb rb m D left cnt) ∧ Hid (ss.length + cnt ≤ m) ∧ Hid (SOwn wr3 wB v ((dsOf a b ss).map dS)) ∧ Hid (Collected D left ss) ∧ Hid (Below w.heap.size w wr3) ∧ wB ≤ wr3.heap.size) (fun _ wr3 => wr3.rangeLeft mb rb)
          case atStart => exact ⟨_, _, [], R0, by show _ ≤ _; simpa using hsz0, World.ownsRow_nil _ _ _ _, Collected.start D, B0', hB0⟩
          case round =>
            clear R0 B0' hB0
            obtain ⟨left, cnt, ss, HRG, HCS0, HS, HC, HBx, hBx⟩ := hrel
            go_wp2_with (at_next; refine wpList_next_ranges _ rfl _ rfl 9 Tryz.strKeyed RBool Value.string (Value.bool) (fun key kl hk => by obtain ⟨x, hx, _⟩ := Maps.keyOf_str Tryz.underlying9 hk; exact ⟨mkB x, hx⟩) (fun v y hv => by obtain ⟨c, rfl, _⟩ := plainElem_bool_inv Tryz.underlying4 hv; exact ⟨c, rfl⟩) mb rb m _ _ _ rfl HRG.out (fun hc0 hl0 => ?_) (fun n c kl yd w2 cnt2 hkey hlk hv hat hrg2 hlt2 hg2 hs2 hen => ?_))
            · have HKM := Lib.hid (keys_mem HC.out hl0 HH3.out)
              have hdl : (dsOf a b ss).length ≤ 1000000 := Nat.le_trans (dsOf_len a b ss) (by have := HCS0.out; omega)
              clear HC HCS0
              refine (sortRow_any HS.out hdl hBx).mono ?_
              rintro e w4 ⟨rfl, ⟨ds', p1, p2, HS4⟩, hb4⟩
              have B4 := Lib.hid (HBx.out.trans (hb4.mono hBw))
              have HQ : Hid (ds' = diffGo a b) := diff_sorted OKA.out.strict OKB.out.strict (fun n => by
                rw [HKM.out.2 n, ← HCC.out]
                constructor
                · rintro ⟨x, hx, e⟩
                  rcases List.mem_append.1 hx with h | h
                  · exact .inl ⟨x, h, e⟩
                  · exact .inr ⟨x, h, e⟩
                · rintro (⟨x, hx, e⟩ | ⟨x, hx, e⟩)
                  · exact ⟨x, List.mem_append.2 (.inl hx), e⟩
                  · exact ⟨x, List.mem_append.2 (.inr hx), e⟩) HKM.out.1 p1 p2
              have HS5 := Lib.hid (SOwn.low HS4.out hBw)
              clear p1 p2 hb4 HKM HS4 HS HRG HBx hc0 hl0
              go_wp2_with fail
              go_ret2
              rw [HY.out]
              rw [HQ.out] at HS5
              exact ⟨⟨_, _, rfl, .inl ⟨rfl, rfl⟩, HS5⟩, B4⟩
            · obtain ⟨x', ex, hkx, hxl⟩ := Maps.keyOf_str Tryz.underlying9 hkey
              obtain rfl : n = mkB x' := by injection ex
              obtain ⟨n, hn⟩ : ∃ n, mkB x' = n := ⟨_, rfl⟩
              have hx' : x' = bl n := by rw [← hn, bl_mkB]
              subst hx'
              rw [hn] at hen ⊢
              subst hkx
              have HC2 := Lib.hid (HC.out.step hlk hat)
              have HCS : Hid (ss.length + cnt2 + 1 ≤ m) := by show _ ≤ _; have := HCS0.out; omega
              have hns : 2 + n.size ≤ 9223372036854775807 := by
                obtain ⟨x, hx, e⟩ := name_mem.1 (by rw [← HH3.out]; exact has_true_of_atKey hat)
                have := (HSM.out x hx).1
                rw [e] at this
                omega
              have HLE := Lib.hid HRG.out.left_eq
              have HS2 := Lib.hid (World.ownsRow.kept HS.out hg2 (.inr (row_ne_iterD HS.out HRG.out)))
              have R2 := Lib.hid hrg2
              have B2 := Lib.hid (HBx.out.grown hg2 HBx.out.size (fun j hj => by cases hj; exact Nat.le_trans hBw hBrb))
              have hB2 : wB ≤ w2.heap.size := Nat.le_trans hBx hg2.size
              clear hkey hv hat hlk hrg2 hg2 hs2 HS HRG HC HCS0 HBx hBx hn ex
              have FA : Hid (∀ W, Below w.heap.size w W → Calls Tryz.prog 16 #[.slice ao a.length ac, .string n] W (WantIxPost a n W)) := fun W hW => lockFind_any _ a n W (HA.out.ext hW).1 (by omega)
              have FB : Hid (∀ W, Below w.heap.size w W → Calls Tryz.prog 16 #[.slice bo b.length bc, .string n] W (WantIxPost b n W)) := fun W hW => lockFind_any _ b n W (HB.out.ext hW).1 (by omega)
              have hdl : (((dsOf a b ss).map dS)).length ≤ 40 := by rw [List.length_map]; exact Nat.le_trans (dsOf_len a b ss) (by have := HCS.out; omega)
              refine (FA.out w2 B2.out).mono ?_
              rintro e w4 ⟨rfl, hb4⟩
              have B4 := Lib.hid (B2.out.trans (hb4.mono B2.out.size))
              have HS4 := Lib.hid (rowExt HS2.out hb4)
              have R4 := Lib.hid (R2.out.kept (grown_of hb4) (by simp) (by simp))
              have hB4 : wB ≤ w4.heap.size := Nat.le_trans hB2 hb4.size
              obtain ⟨fa, hfa⟩ : ∃ x, findW n a = x := ⟨_, rfl⟩
              rw [hfa]
              have HFA := Lib.hid hfa
              clear hb4 B2 HS2 R2 hB2 hfa hen
              go_wp2_with fail
              refine (FB.out w4 B4.out).mono ?_
              rintro e w5 ⟨rfl, hb5⟩
              have B5 := Lib.hid (B4.out.trans (hb5.mono B4.out.size))
              have HS5 := Lib.hid (rowExt HS4.out hb5)
              have R5 := Lib.hid (R4.out.kept (grown_of hb5) (by simp) (by simp))
              have hB5 : wB ≤ w5.heap.size := Nat.le_trans hB4 hb5.size
              obtain ⟨fb, hfb⟩ : ∃ x, findW n b = x := ⟨_, rfl⟩
              rw [hfb]
              have HFB := Lib.hid hfb
              clear hb5 B4 HS4 R4 hB4 hfb FA FB
              cases fb with
              | none =>
                have HD : Hid (dsOf a b (ss ++ [bl n]) = dsOf a b ss ++ [(45, n)]) := dsOf_some (by unfold dOf; rw [HFB.out]; rfl)
                have e1 : findI none = -1 := rfl
                rw [e1]
                clear e1 HFA HFB
                go_wp2_with (at_builtin; refine wpList_append_own _ rfl _ _ 33 rfl wB 9 i0 (.string ⟨#[]⟩) 1 16 Tryz.underlying33 hi0 hz0 hz1 hz2 rfl (by decide) _ _ _ rfl (HS5.out.alloc _) ⟨w5.heap.size, 0, none⟩ 1 1 [Value.string ({ data := #[45, 32] } ++ n)] rfl rfl ?c1 ?c2 ?c3 ?c4 ?c5 ?_)
                case c1 =>
                  intro j u hj
                  match j, hj with
                  | 0, hj => simp at hj; subst hj; simp [Addr.add]
                case c2 => intro u hu; simp at hu; subst hu; rfl
                case c3 => rw [maxLen_eq]; omega
                case c4 => omega
                case c5 => simp; omega
                intro v' w6 hown' hg6 _
                have HS6 : Hid (SOwn w6 wB v' ((dsOf a b (ss ++ [bl n])).map dS)) := by
                  show World.ownsRow _ _ _ _ _ _ _
                  rw [HD.out, List.map_append, List.map_append]
                  have e := cat_dS 45 n
                  rw [e] at hown'
                  simpa using hown'
                have R6 := Lib.hid ((R5.out.alloc _).kept hg6 (row_ne_lowD HS5.out hmB) (fun e => row_ne_iterD HS5.out R5.out e.symm))
                have B6 := Lib.hid ((B5.out.alloc B5.out.size (.cells #[Value.string ({ data := #[45, 32] } ++ n)] 9)).grown hg6 (by have := B5.out.size; simp; omega) (fun j hj => Nat.le_trans hBw (HS5.out.lt j hj).1))
                have hB6 : wB ≤ w6.heap.size := by have := hg6.size; simp at this; omega
                clear hown' hg6 HS5 R5 B5 HD
                go_wp2_with fail
                go_roundw
                case rel => exact ⟨_, cnt2, ss ++ [bl n], R6, by show _ ≤ _; have := HCS.out; simp; omega, HS6, HC2, B6, hB6⟩
                case measure => rw [R6.out.left_eq, HLE.out]; exact hlt2
              | some j =>
                have e1 : findI (some j) = (j : Int) := rfl
                have e2 : decide ((j : Int) < 0) = false := decide_eq_false (by omega)
                rw [e1]
                clear e1
                cases fa with
                | none =>
                  have HD : Hid (dsOf a b (ss ++ [bl n]) = dsOf a b ss ++ [(43, n)]) := dsOf_some (by unfold dOf; rw [HFB.out, HFA.out]; rfl)
                  have e1 : findI none = -1 := rfl
                  rw [e1]
                  clear e1 HFA HFB
                  go_wp2_with (at_builtin; refine wpList_append_own _ rfl _ _ 33 rfl wB 9 i0 (.string ⟨#[]⟩) 1 16 Tryz.underlying33 hi0 hz0 hz1 hz2 rfl (by decide) _ _ _ rfl (HS5.out.alloc _) ⟨w5.heap.size, 0, none⟩ 1 1 [Value.string ({ data := #[43, 32] } ++ n)] rfl rfl ?c1 ?c2 ?c3 ?c4 ?c5 ?_)
                  case c1 =>
                    intro j u hj
                    match j, hj with
                    | 0, hj => simp at hj; subst hj; simp [Addr.add]
                  case c2 => intro u hu; simp at hu; subst hu; rfl
                  case c3 => rw [maxLen_eq]; omega
                  case c4 => omega
                  case c5 => simp; omega
                  intro v' w6 hown' hg6 _
                  have HS6 : Hid (SOwn w6 wB v' ((dsOf a b (ss ++ [bl n])).map dS)) := by
                    show World.ownsRow _ _ _ _ _ _ _
                    rw [HD.out, List.map_append, List.map_append]
                    have e := cat_dS 43 n
                    rw [e] at hown'
                    simpa using hown'
                  have R6 := Lib.hid ((R5.out.alloc _).kept hg6 (row_ne_lowD HS5.out hmB) (fun e => row_ne_iterD HS5.out R5.out e.symm))
                  have B6 := Lib.hid ((B5.out.alloc B5.out.size (.cells #[Value.string ({ data := #[43, 32] } ++ n)] 9)).grown hg6 (by have := B5.out.size; simp; omega) (fun j hj => Nat.le_trans hBw (HS5.out.lt j hj).1))
                  have hB6 : wB ≤ w6.heap.size := by have := hg6.size; simp at this; omega
                  clear hown' hg6 HS5 R5 B5 HD
                  go_wp2_with fail
                  go_roundw
                  case rel => exact ⟨_, cnt2, ss ++ [bl n], R6, by show _ ≤ _; have := HCS.out; simp; omega, HS6, HC2, B6, hB6⟩
                  case measure => rw [R6.out.left_eq, HLE.out]; exact hlt2
                | some i =>
                  have e1 : findI (some i) = (i : Int) := rfl
                  have e3 : decide ((i : Int) < 0) = false := decide_eq_false (by omega)
                  rw [e1]
                  clear e1
                  obtain ⟨hia, eia⟩ := findW_some HFA.out
                  obtain ⟨hjb, ejb⟩ := findW_some HFB.out
                  have HDF : Hid (dOf a b n = if a[i] = b[j] then none else some (42, n)) := by
                    show _ = _
                    unfold dOf
                    rw [HFB.out, HFA.out, if_neg (by simp), if_neg (by simp)]
                    simp only [Option.bind_some, List.getElem?_eq_getElem hia, List.getElem?_eq_getElem hjb, Option.some.injEq]
                  obtain ⟨ba, offa, rfl, hcell⟩ := WRow.at HA.out.1 hia
                  obtain ⟨bb, offb, rfl, hcell2⟩ := WRow.at HB.out.1 hjb
                  obtain ⟨q0, q1, q2, q3, q4⟩ := hcell w5 B5.out
                  obtain ⟨p0, p1, p2, p3, p4⟩ := hcell2 w5 B5.out
                  clear hcell hcell2 eia ejb HFA HFB
                  by_cases hq : a[i] = b[j]
                  · have HD : Hid (dsOf a b (ss ++ [bl n]) = dsOf a b ss) := dsOf_none (by rw [HDF.out, if_pos hq])
                    rw [hq] at q0 q1 q2 q3 q4
                    obtain ⟨f, hf⟩ : ∃ f, b[j] = f := ⟨_, rfl⟩
                    rw [hf] at q0 q1 q2 q3 q4 p0 p1 p2 p3 p4
                    clear hq hf HDF
                    have x0 : (f.name.toList == f.name.toList) = true := beq_self_eq_true _
                    have x1 : (f.url.toList == f.url.toList) = true := beq_self_eq_true _
                    have x2 : (f.kind.toList == f.kind.toList) = true := beq_self_eq_true _
                    have x3 : (f.strip == f.strip) = true := beq_self_eq_true _
                    have x4 : (f.sum == f.sum) = true := beq_self_eq_true _
                    clear hxl
                    go_wp2_with fail
                    go_quiet (fail)
                    go_wp2_with fail
                    generalize hw7 : World.drewN w5 _ = w7
                    have hd : Below w5.heap.size w5 w7 := by rw [← hw7]; exact below_drewN _ _ _
                    have B7 := Lib.hid (B5.out.trans (hd.mono B5.out.size))
                    have HS7 := Lib.hid (rowExt HS5.out hd)
                    have R7 := Lib.hid (R5.out.kept (grown_of hd) (by simp) (by simp))
                    have hB7 : wB ≤ w7.heap.size := Nat.le_trans hB5 hd.size
                    clear hw7 hd B5 HS5 R5 hB5
                    go_roundw
                    case rel => exact ⟨_, cnt2, ss ++ [bl n], R7, (by show _ ≤ _; have := HCS.out; simp; omega), (by show World.ownsRow _ _ _ _ _ _ _; rw [HD.out]; exact HS7.out), HC2, B7, hB7⟩
                    case measure => rw [R7.out.left_eq, HLE.out]; exact hlt2
                  · have HD : Hid (dsOf a b (ss ++ [bl n]) = dsOf a b ss ++ [(42, n)]) := dsOf_some (by rw [HDF.out, if_neg hq])
                    generalize a[i] = f at q0 q1 q2 q3 q4 hq
                    generalize b[j] = g at p0 p1 p2 p3 p4 hq
                    have x0 := str_eqb f.name g.name
                    have x1 := str_eqb f.url g.url
                    have x2 := str_eqb f.kind g.kind
                    have x3 := int_eqb f.strip g.strip
                    have x4 := int_eqb f.sum g.sum
                    have hf := (not_congr (want_eq f g)).1 hq
                    clear hq HDF hxl
                    obtain ⟨b0, hb0⟩ : ∃ b0, decide (f.name = g.name) = b0 := ⟨_, rfl⟩
                    obtain ⟨b1, hb1⟩ : ∃ b1, decide (f.url = g.url) = b1 := ⟨_, rfl⟩
                    obtain ⟨b2, hb2⟩ : ∃ b1, decide (f.kind = g.kind) = b1 := ⟨_, rfl⟩
                    obtain ⟨b3, hb3⟩ : ∃ b1, decide (f.strip = g.strip) = b1 := ⟨_, rfl⟩
                    obtain ⟨b4, hb4⟩ : ∃ b1, decide (f.sum = g.sum) = b1 := ⟨_, rfl⟩
                    rw [hb0] at x0
                    rw [hb1] at x1
                    rw [hb2] at x2
                    rw [hb3] at x3
                    rw [hb4] at x4
                    have hnot : (b0 && b1 && b2 && b3 && b4) = false := by
                      rw [← hb0, ← hb1, ← hb2, ← hb3, ← hb4]
                      cases h : (decide (f.name = g.name) && decide (f.url = g.url) && decide (f.kind = g.kind) && decide (f.strip = g.strip) && decide (f.sum = g.sum)) with
                      | false => rfl
                      | true =>
                        simp only [Bool.and_eq_true, decide_eq_true_eq] at h
                        exact absurd ⟨h.1.1.1.1, h.1.1.1.2, h.1.1.2, h.1.2, h.2⟩ hf
                    clear hf hb0 hb1 hb2 hb3 hb4
                    cases b0 <;> cases b1 <;> cases b2 <;> cases b3 <;> cases b4 <;> first | (exact absurd hnot (by decide)) | skip
                    all_goals
                      clear hnot
                      go_wp2_with fail
                      go_quiet (fail)
                      generalize hw7 : World.drewN w5 _ = w7
                      have hd : Below w5.heap.size w5 w7 := by rw [← hw7]; exact below_drewN _ _ _
                      have B7 := Lib.hid (B5.out.trans (hd.mono B5.out.size))
                      have HS7 := Lib.hid (rowExt HS5.out hd)
                      have R7 := Lib.hid (R5.out.kept (grown_of hd) (by simp) (by simp))
                      have hB7 : wB ≤ w7.heap.size := Nat.le_trans hB5 hd.size
                      clear hw7 hd B5 HS5 R5 hB5 p0 p1 p2 p3 p4 q0 q1 q2 q3 q4 x0 x1 x2 x3 x4
                      go_wp2_with (at_builtin; refine wpList_append_own _ rfl _ _ 33 rfl wB 9 i0 (.string ⟨#[]⟩) 1 16 Tryz.underlying33 hi0 hz0 hz1 hz2 rfl (by decide) _ _ _ rfl (HS7.out.alloc _) ⟨w7.heap.size, 0, none⟩ 1 1 [Value.string ({ data := #[42, 32] } ++ n)] rfl rfl ?c1 ?c2 ?c3 ?c4 ?c5 ?_)
                      case c1 =>
                        intro j u hj
                        match j, hj with
                        | 0, hj => simp at hj; subst hj; simp [Addr.add]
                      case c2 => intro u hu; simp at hu; subst hu; rfl
                      case c3 => rw [maxLen_eq]; omega
                      case c4 => omega
                      case c5 => simp; omega
                      intro v' w6 hown' hg6 _
                      have HS6 : Hid (SOwn w6 wB v' ((dsOf a b (ss ++ [bl n])).map dS)) := by
                        show World.ownsRow _ _ _ _ _ _ _
                        rw [HD.out, List.map_append, List.map_append]
                        have e := cat_dS 42 n
                        rw [e] at hown'
                        simpa using hown'
                      have R6 := Lib.hid ((R7.out.alloc _).kept hg6 (row_ne_lowD HS7.out hmB) (fun e => row_ne_iterD HS7.out R7.out e.symm))
                      have B6 := Lib.hid ((B7.out.alloc B7.out.size (.cells #[Value.string ({ data := #[42, 32] } ++ n)] 9)).grown hg6 (by have := B7.out.size; simp; omega) (fun j hj => Nat.le_trans hBw (HS7.out.lt j hj).1))
                      have hB6 : wB ≤ w6.heap.size := by have := hg6.size; simp at this; omega
                      clear hown' hg6 HS7 R7 B7 HD
                      go_wp2_with fail
                      go_roundw
                      case rel => exact ⟨_, cnt2, ss ++ [bl n], R6, by show _ ≤ _; have := HCS.out; simp; omega, HS6, HC2, B6, hB6⟩
                      case measure => rw [R6.out.left_eq, HLE.out]; exact hlt2
end Go.Proofs.YtgchgdkpipanjaaGreatDoor
