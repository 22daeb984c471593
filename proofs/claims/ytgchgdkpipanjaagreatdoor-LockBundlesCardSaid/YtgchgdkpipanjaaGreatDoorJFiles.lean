/- chandlerylaw1.LongFiles, OwnFiles: contracts; files that the call owns. A law's fault is stored anew: errors and files stay. -/
import Derived.Test.YtgchgdkpipanjaaGreatDoorJTreed
import Derived.Laws.AppendOwnNone
import Derived.Maps.AppendAt
import Derived.Test.YtgchgdkpipanjaaGreatDoorJTold
namespace Go.Proofs.YtgchgdkpipanjaaGreatDoor
open Go Go.RowKit

/-- Files as an argument: a row; nil, if it has no address. -/
def FArg (w : World) (v : Value) (l : List FileB) : Prop := FRow w v l ∧ ∀ n c, v = .slice none n c → n = 0 ∧ c = 0
theorem FArg.ext {w w' : World} {v : Value} {l : List FileB} (h : FArg w v l) (hb : Below w.heap.size w w') : FArg w' v l := ⟨h.1.ext hb, h.2⟩

theorem Tryz.infoFile : (Tryz.prog.info? 109).map (fun i => (i.zero, i.size, i.bytes)) = some (some (.agg #[.string ⟨#[]⟩, .bool false, .string ⟨#[]⟩]), 3, 40) := by kernel_rfl

/-- Files of the call's own. -/
def FOwn (w : World) (base : Nat) (v : Value) (l : List FileB) : Prop := w.ownsRow base 109 3 v l.length (l.flatMap encFile)
theorem FOwn.nil (w : World) (base : Nat) : FOwn w base (.slice none 0 0) [] := World.ownsRow_nil _ _ _ _
theorem FOwn.arg {w : World} {base : Nat} {v : Value} {l : List FileB} (h : FOwn w base v l) : FArg w v l := by
  rcases Row.of_owns (enc := encFile) (fun _ => rfl) h with ⟨rfl, rfl⟩ | ⟨g, off, cap, rfl, hn, hc, hlt, hcell⟩
  · exact ⟨⟨none, 0, rfl, Nat.le_refl _, Nat.zero_le _, fun i hi => absurd hi (Nat.not_lt_zero _)⟩, fun n c e => by injection e with _ e1 e2; exact ⟨e1.symm, e2.symm⟩⟩
  · refine ⟨⟨_, cap, rfl, hn, hc, fun i hi => ⟨g, off, rfl, hlt, fun k hk => ?_⟩⟩, fun n c e => by injection e with e0; cases e0⟩
    exact ⟨hcell k hk 0 (by decide), hcell k hk 1 (by decide), hcell k hk 2 (by decide)⟩
theorem FOwn.low {w : World} {base B : Nat} {v : Value} {l : List FileB} (h : FOwn w base v l) (hB : B ≤ base) : FOwn w B v l := by
  refine ⟨h.1, ?_⟩
  rcases h.2 with h0 | ⟨g, cap, cur, hv, hb, hr⟩
  · exact .inl h0
  · exact .inr ⟨g, cap, cur, hv, Nat.le_trans hB hb, hr⟩
theorem FOwn.shape {w : World} {base : Nat} {v : Value} {l : List FileB} (h : FOwn w base v l) : ∃ ao cap, v = .slice ao l.length cap := by
  obtain ⟨⟨ao, cap, h1, _⟩, _⟩ := h.arg
  exact ⟨ao, cap, h1⟩
theorem FOwn.ext {w w' : World} {base : Nat} {v : Value} {l : List FileB} (h : FOwn w base v l) (hb : Below w.heap.size w w') : FOwn w' base v l := owns_below h hb

/-- What LongFiles says: 0 for files that are few and short. -/
def LFPost (l : List FileB) (w : World) (e : Ending) (w' : World) : Prop := (∃ n : Int, e = .returned (.int .i64 n) ∧ (n = 0 ∨ n = 1) ∧ Hid (n = 0 → l.length ≤ 31 ∧ ∀ f ∈ l, f.path.size ≤ 100 ∧ f.text.size ≤ 4001)) ∧ w = w'
theorem LFPost.one {l : List FileB} {w : World} : LFPost l w (.returned (.int .i64 1)) w := ⟨⟨1, rfl, .inr rfl, fun h => by cases h⟩, rfl⟩

set_option maxHeartbeats 1000000 in
set_option maxRecDepth 100000 in
theorem longFiles_few (v : Value) (l : List FileB) (w : World) (hv : FRow w v l) (h31 : l.length ≤ 25 ∨ l.length = 31) :
    Calls Tryz.prog 58 #[v] w (LFPost l w) := by
  obtain ⟨ao, cap, rfl, h1, h2, H3⟩ := hv
  have HM := Lib.hid H3
  clear H3
  have h31' : l.length ≤ 31 := by omega
  go_enter Tryz.func58, Tryz.ntmps58
  have h25' : l.length ≤ 25 ∨ (¬ l.length ≤ 25 ∧ ((l.length : Int) != 31) = false) := by
    rcases h31 with h | h
    · exact .inl h
    · exact .inr ⟨by omega, by rw [h]; rfl⟩
  clear h31
  rcases h25' with h25 | ⟨h25, g25⟩
  all_goals
    go_wp2_with fail
    try clear g25
    go_loop [3] (fun i => ∃ k : Nat, k ≤ l.length ∧ i = .int .i64 k ∧ Hid (∀ j, (h : j < l.length) → j < k → l[j].path.size ≤ 100 ∧ l[j].text.size ≤ 4001)) (fun i => l.length - (intOf i).toNat)
    case atStart => exact ⟨0, Nat.zero_le _, rfl, fun j _ h => absurd h (Nat.not_lt_zero _)⟩
    case round =>
      obtain ⟨k, hk, rfl, HA⟩ := hrel
      by_cases hlt : k < l.length
      · obtain ⟨b, off, rfl, hbl, hcell⟩ := HM.out k hlt
        obtain ⟨d0, _, d2⟩ := hcell k hlt
        have HK : Hid (l[k].path.size ≤ 100 → l[k].text.size ≤ 4001 → ∀ j, (h : j < l.length) → j < k + 1 → l[j].path.size ≤ 100 ∧ l[j].text.size ≤ 4001) := fun hs1 hs2 j h hj => by
          by_cases e : j = k
          · subst e; exact ⟨hs1, hs2⟩
          · exact HA.out j h (by omega)
        clear hcell HA
        generalize l[k] = f at d0 d2 HK
        by_cases hp : f.path.size ≤ 100
        · by_cases ht : f.text.size ≤ 200
          · have HK2 := Lib.hid (HK.out hp (by omega))
            clear HK
            go_wp2_with fail
            go_round
            case rel => exact ⟨k + 1, by omega, by go_num, HK2⟩
            case measure => simp [intOf]; omega
          · by_cases h40 : f.text.size = 4000
            · have HK2 := Lib.hid (HK.out hp (by omega))
              have e : ((f.text.size : Int) != 4000) = false := by rw [h40]; rfl
              clear HK h40
              go_wp2_with fail
              go_round
              case rel => exact ⟨k + 1, by omega, by go_num, HK2⟩
              case measure => simp [intOf]; omega
            · by_cases h41 : f.text.size = 4001
              · have HK2 := Lib.hid (HK.out hp (by omega))
                have e : ((f.text.size : Int) != 4000) = true := by rw [h41]; rfl
                have e2 : ((f.text.size : Int) != 4001) = false := by rw [h41]; rfl
                clear HK h41 h40
                go_wp2_with fail
                go_round
                case rel => exact ⟨k + 1, by omega, by go_num, HK2⟩
                case measure => simp [intOf]; omega
              · have e : ((f.text.size : Int) != 4000) = true := by rw [bne_iff_ne]; omega
                have e2 : ((f.text.size : Int) != 4001) = true := by rw [bne_iff_ne]; omega
                clear HK h41 h40
                go_wp2_with fail
                go_ret
                exact LFPost.one
        · go_wp2_with fail
          go_ret
          exact LFPost.one
      · obtain rfl : k = l.length := by omega
        have HT : Hid (l.length ≤ 31 ∧ ∀ f ∈ l, f.path.size ≤ 100 ∧ f.text.size ≤ 4001) := ⟨h31', fun r h => by obtain ⟨j, hj, rfl⟩ := List.getElem_of_mem h; exact HA.out j hj hj⟩
        clear HA
        go_wp2_with fail
        go_ret
        exact ⟨⟨0, rfl, .inl rfl, fun _ => HT.out⟩, rfl⟩

set_option maxRecDepth 100000 in
theorem longFiles_any (v : Value) (l : List FileB) (w : World) (hv : FRow w v l) :
    Calls Tryz.prog 58 #[v] w (LFPost l w) := by
  by_cases h : l.length ≤ 25 ∨ l.length = 31
  · exact longFiles_few v l w hv h
  · obtain ⟨ao, cap, rfl, h1, h2, H3⟩ := hv
    clear H3
    have g1 : ¬ l.length ≤ 25 := by omega
    have g2 : ((l.length : Int) != 31) = true := by rw [bne_iff_ne]; omega
    clear h
    go_enter Tryz.func58, Tryz.ntmps58
    go_wp2_with fail
    go_ret
    exact LFPost.one

set_option maxHeartbeats 1000000 in
set_option maxRecDepth 100000 in
theorem ownFiles_any (v : Value) (l : List FileB) (w : World) (hl : l.length ≤ 1000) (hv : FArg w v l) :
    Calls Tryz.prog 75 #[v] w fun e w' => (∃ ov, e = .returned ov ∧ Hid (FOwn w' w.heap.size ov l)) ∧ Below w.heap.size w w' := by
  obtain ⟨i0, hi0, hz0, hz1, hz2⟩ := info_parts Tryz.infoFile
  obtain ⟨⟨ao, cap, rfl, h1, h2, H3⟩, hnil⟩ := hv
  have HM := Lib.hid H3
  clear H3
  cases ao with
  | none =>
    obtain ⟨h0, rfl⟩ := hnil _ _ rfl
    have hl0 : l = [] := List.eq_nil_of_length_eq_zero h0
    subst hl0
    clear HM hnil
    simp only [List.length_nil]
    go_enter Tryz.func75, Tryz.ntmps75
    go_wp2_with (at_builtin; refine wpList_append_own_none rfl _ _ 48 rfl w.heap.size 109 i0 3 Tryz.underlying48 hi0 (.slice none 0 0) 0 [] rfl (World.ownsRow_nil _ _ _ _) rfl ?_)
    go_ret
    exact ⟨⟨_, rfl, FOwn.nil _ _⟩, Below.refl _ _⟩
  | some ad =>
    clear hnil
    go_enter Tryz.func75, Tryz.ntmps75
    go_wp2_with (at_builtin; refine wpList_append_own _ rfl _ _ 48 rfl w.heap.size 109 i0 (.agg #[.string ⟨#[]⟩, .bool false, .string ⟨#[]⟩]) 3 40 Tryz.underlying48 hi0 hz0 hz1 hz2 rfl (by decide) (.slice none 0 0) 0 [] rfl (World.ownsRow_nil _ _ _ _) ad l.length cap (l.flatMap encFile) rfl (flatMap_len _ 3 (fun _ => rfl) l) ?c1 ?c2 ?c3 ?c4 ?c5 ?_)
    case c1 =>
      intro j u hj
      have hjl : j < (l.flatMap encFile).length := (List.getElem?_eq_some_iff.1 hj).1
      rw [flatMap_len encFile 3 (fun _ => rfl)] at hjl
      have hi : j / 3 < l.length := by omega
      obtain ⟨b, off, he, hbl, hcell⟩ := HM.out (j / 3) hi
      injection he with he
      subst he
      obtain ⟨q0, q1, q2⟩ := hcell (j / 3) hi
      rw [show j = j / 3 * 3 + j % 3 by omega, flatMap_at encFile 3 (fun _ => rfl) l (j / 3) (j % 3) hi (by omega)] at hj
      have hm : j % 3 = 0 ∨ j % 3 = 1 ∨ j % 3 = 2 := by omega
      show w.cell? (Addr.add ⟨b, off, none⟩ j) = some u
      rw [Addr.add_lit]
      rcases hm with hm | hm | hm
      · rw [hm] at hj
        have : u = .string l[j / 3].path := by simpa using hj.symm
        rw [this, ← q0]; congr 2; omega
      · rw [hm] at hj
        have : u = .bool l[j / 3].run := by simpa using hj.symm
        rw [this, ← q1]; congr 2; omega
      · rw [hm] at hj
        have : u = .string l[j / 3].text := by simpa using hj.symm
        rw [this, ← q2]; congr 2; omega
    case c2 =>
      intro u hu
      obtain ⟨f, _, hf⟩ := List.mem_flatMap.1 hu
      simp at hf
      rcases hf with rfl | rfl | rfl <;> rfl
    case c3 => rw [maxLen_eq]; omega
    case c4 => omega
    case c5 => exact Nat.le_refl _
    intro v' w' hown hgrow _
    have hb : Below w.heap.size w w' := (Below.refl _ _).grown hgrow (Nat.le_refl _) (fun r e => by cases e)
    have H : Hid (FOwn w' w.heap.size v' l) := by
      show w'.ownsRow _ _ _ _ _ _
      simpa using hown
    clear hown hgrow HM
    go_wp2_with fail
    go_ret
    exact ⟨⟨_, rfl, H⟩, hb⟩
end Go.Proofs.YtgchgdkpipanjaaGreatDoor

namespace Go.Proofs.YtgchgdkpipanjaaGreatDoor
open Go Go.RowKit

/-- A fault's block. -/
def FaultAt (w : World) (q : Nat) (c a : Int) : Prop := w.heap[q]? = some (.cells #[.int .i64 c, .int .i64 a] 59 (0, 0))
theorem FaultAt.lt {w : World} {q : Nat} {c a : Int} (h : FaultAt w q c a) : q < w.heap.size := (Array.getElem?_eq_some_iff.1 h).1
theorem FaultAt.ext {w w' : World} {q : Nat} {c a : Int} (h : FaultAt w q c a) (hb : Below w.heap.size w w') : FaultAt w' q c a := (hb.block q h.lt).trans h
theorem FaultAt.new (w : World) (c a : Int) : FaultAt (w.alloc (.cells #[.int .i64 c, .int .i64 a] 59)) w.heap.size c a := heap_alloc_new _ _
theorem FaultAt.cells {w : World} {q : Nat} {c a : Int} (h : FaultAt w q c a) : w.cell? ⟨q, 0, none⟩ = some (.int .i64 c) ∧ w.cell? ⟨q, 1, none⟩ = some (.int .i64 a) ∧ w.frozen? ⟨q, 0, none⟩ = false ∧ w.frozen? ⟨q, 1, none⟩ = false :=
  ⟨by rw [Lib.cell_of_heap h]; rfl, by rw [Lib.cell_of_heap h]; rfl, Lib.frozen_of_heap h 0, Lib.frozen_of_heap h 1⟩
theorem FaultAt.cell_int {w : World} {q : Nat} {c a : Int} (h : FaultAt w q c a) (k : Nat) (v : Value) (hv : w.cell? ⟨q, k, none⟩ = some v) : ∃ n, v = .int .i64 n := by
  rw [Lib.cell_of_heap h] at hv
  match k, hv with
  | 0, hv => exact ⟨c, (Option.some.inj hv).symm⟩
  | 1, hv => exact ⟨a, (Option.some.inj hv).symm⟩
  | k + 2, hv => simp at hv
theorem FaultAt.store {w : World} {q : Nat} {c a : Int} (h : FaultAt w q c a) (x y : Int) : FaultAt ((w.setCell ⟨q, 0, none⟩ (.int .i64 x)).setCell ⟨q, 1, none⟩ (.int .i64 y)) q x y := by
  unfold FaultAt at h ⊢
  simp [World.setCell, Array.getElem?_modify, h]
theorem store_block (w : World) (q : Nat) (x y : Value) (b : Nat) (hne : b ≠ q) : ((w.setCell ⟨q, 0, none⟩ x).setCell ⟨q, 1, none⟩ y).heap[b]? = w.heap[b]? := by
  rw [Below.heap_setCell _ _ _ _ hne, Below.heap_setCell _ _ _ _ hne]
theorem store_cell (w : World) (q : Nat) (x y : Value) (b k : Nat) (hne : b ≠ q) : ((w.setCell ⟨q, 0, none⟩ x).setCell ⟨q, 1, none⟩ y).cell? ⟨b, k, none⟩ = w.cell? ⟨b, k, none⟩ :=
  World.cell?_of_block (w := w) (a := ⟨b, k, none⟩) (store_block w q x y b hne)
theorem IsErr.store {E : Nat → Addr} {w : World} {v : Value} {er : Er} {q : Nat} {c a : Int} (h : IsErr E w v er) (hq : FaultAt w q c a) (x y : Value) : IsErr E ((w.setCell ⟨q, 0, none⟩ x).setCell ⟨q, 1, none⟩ y) v er := by
  rcases h with h | h | ⟨k, a', b, hk, h1, h2, h3, h4⟩
  · exact .inl h
  · exact .inr (.inl h)
  · have hne : b ≠ q := by
      rintro rfl
      obtain ⟨n, hn⟩ := hq.cell_int 1 _ h4
      cases hn
    exact .inr (.inr ⟨k, a', b, hk, h1, h2, by rw [store_cell _ _ _ _ _ _ hne]; exact h3, by rw [store_cell _ _ _ _ _ _ hne]; exact h4⟩)
theorem FArg.store {w : World} {v : Value} {l : List FileB} {q : Nat} {c a : Int} (h : FArg w v l) (hq : FaultAt w q c a) (x y : Value) : FArg ((w.setCell ⟨q, 0, none⟩ x).setCell ⟨q, 1, none⟩ y) v l := by
  obtain ⟨⟨ao, cap, h1, h2, h3, h4⟩, hn⟩ := h
  refine ⟨⟨ao, cap, h1, h2, h3, fun i hi => ?_⟩, hn⟩
  obtain ⟨b, off, e, hbl, hc⟩ := h4 i hi
  have hne : b ≠ q := by
    rintro rfl
    obtain ⟨n, hn⟩ := hq.cell_int _ _ (hc i hi).1
    cases hn
  refine ⟨b, off, e, by simpa using hbl, fun k hk => ?_⟩
  obtain ⟨q0, q1, q2⟩ := hc k hk
  exact ⟨by rw [store_cell _ _ _ _ _ _ hne]; exact q0, by rw [store_cell _ _ _ _ _ _ hne]; exact q1, by rw [store_cell _ _ _ _ _ _ hne]; exact q2⟩
theorem store_below {w0 w : World} {q : Nat} (h : Below w0.heap.size w0 w) (hq : w0.heap.size ≤ q) (x y : Value) : Below w0.heap.size w0 ((w.setCell ⟨q, 0, none⟩ x).setCell ⟨q, 1, none⟩ y) :=
  (h.setCell (p := ⟨q, 0, none⟩) hq x).setCell (p := ⟨q, 1, none⟩) hq y
/-- A fault's block, where another fault is stored. -/
theorem FaultAt.other {w : World} {g q : Nat} {c a : Int} (h : FaultAt w g c a) (hq : g ≠ q) (x y : Value) : FaultAt ((w.setCell ⟨q, 0, none⟩ x).setCell ⟨q, 1, none⟩ y) g c a := (store_block w q x y g hq).trans h
theorem below_pair {B q : Nat} {w0 w : World} (h : Below B w0 w) (hq : B ≤ q) (x y : Value) : Below B w0 ((w.setCell ⟨q, 0, none⟩ x).setCell ⟨q, 1, none⟩ y) := (h.setCell (p := ⟨q, 0, none⟩) hq _).setCell (p := ⟨q, 1, none⟩) hq _
end Go.Proofs.YtgchgdkpipanjaaGreatDoor
