/- slices.Clone of wants: the contract. A row of files as the source of an append: own steps of the walk. slices.Grow of no wants; slices.Concat of two rows of wants: contracts. -/
import Derived.Test.YtgchgdkpipanjaaGreatDoorKWantAll
import Derived.Laws.NewBlocks
import Derived.Lib.SliceRun
namespace Go.Proofs.YtgchgdkpipanjaaGreatDoor
open Go Go.RowKit Go.Lib

set_option maxHeartbeats 1000000 in
set_option maxRecDepth 100000 in
/-- slices.Clone of wants. -/
theorem cloneWants_any (v : Value) (l : List WantB) (w : World) (hl : l.length ≤ 10000) (hv : WArg w v l) :
    Calls Tryz.prog 52 #[v] w fun e w' => (∃ ov, e = .returned ov ∧ Hid (WOwn w' w.heap.size ov l)) ∧ Below w.heap.size w w' := by
  obtain ⟨i0, hi0, hz0, hz1, hz2⟩ := info_parts Tryz.infoWant
  obtain ⟨⟨ao, cap, rfl, h1, h2, H3⟩, hnil⟩ := hv
  have HM := Lib.hid H3
  have hq : ∀ (W : World) (a : Option Addr) (n c : Nat), (binOp .eql 22 (.slice a n c) (.slice none 0 0)).run Tryz.prog W = .ok (.bool a.isNone) W := fun W a n c => Go.Lib.run_eql_slice_nil W _ _ a n c 0 0 Tryz.underlying22
  clear H3
  cases ao with
  | none =>
    obtain ⟨h0, rfl⟩ := hnil _ _ rfl
    have hl0 : l = [] := List.eq_nil_of_length_eq_zero h0
    subst hl0
    clear HM hnil
    simp only [List.length_nil]
    go_enter Tryz.func52, Tryz.ntmps52
    go_wp2_with fail
    go_ret
    exact ⟨⟨_, rfl, WOwn.nil _ _⟩, Below.refl _ _⟩
  | some ad =>
    clear hnil
    go_enter Tryz.func52, Tryz.ntmps52
    go_wp2_with (at_builtin; refine wpList_append_own _ rfl _ _ 22 rfl w.heap.size 41 i0 (.agg #[.string ⟨#[]⟩, .string ⟨#[]⟩, .string ⟨#[]⟩, .int .i64 0, .int .i64 0]) 5 64 Tryz.underlying22 hi0 hz0 hz1 hz2 rfl (by decide) _ 0 _ rfl (World.ownsRow_made w #[] 0 (Nat.le_refl _) (Nat.zero_le _) rfl) ad l.length cap (l.flatMap encW) rfl (flatMap_len _ 5 (fun _ => rfl) l) ?c1 ?c2 ?c3 ?c4 ?c5 ?_)
    case c1 =>
      intro j u hj
      have hjl : j < (l.flatMap encW).length := (List.getElem?_eq_some_iff.1 hj).1
      rw [flatMap_len encW 5 (fun _ => rfl)] at hjl
      have hi : j / 5 < l.length := by omega
      obtain ⟨b, off, he, hbl, hcell⟩ := HM.out (j / 5) hi
      injection he with he
      subst he
      obtain ⟨q0, q1, q2, q3, q4⟩ := hcell (j / 5) hi
      rw [show j = j / 5 * 5 + j % 5 by omega, flatMap_at encW 5 (fun _ => rfl) l (j / 5) (j % 5) hi (by omega)] at hj
      have hm : j % 5 = 0 ∨ j % 5 = 1 ∨ j % 5 = 2 ∨ j % 5 = 3 ∨ j % 5 = 4 := by omega
      rw [Addr.add_lit]
      refine cell?_alloc_some _ ?_
      rcases hm with hm | hm | hm | hm | hm
      · rw [hm] at hj
        have : u = .string l[j / 5].name := by simpa using hj.symm
        rw [this, ← q0]; congr 2; omega
      · rw [hm] at hj
        have : u = .string l[j / 5].url := by simpa using hj.symm
        rw [this, ← q1]; congr 2; omega
      · rw [hm] at hj
        have : u = .string l[j / 5].kind := by simpa using hj.symm
        rw [this, ← q2]; congr 2; omega
      · rw [hm] at hj
        have : u = .int .i64 l[j / 5].strip := by simpa using hj.symm
        rw [this, ← q3]; congr 2; omega
      · rw [hm] at hj
        have : u = .int .i64 l[j / 5].sum := by simpa using hj.symm
        rw [this, ← q4]; congr 2; omega
    case c2 =>
      intro u hu
      obtain ⟨f, _, hf⟩ := List.mem_flatMap.1 hu
      simp at hf
      rcases hf with rfl | rfl | rfl | rfl | rfl <;> rfl
    case c3 => rw [maxLen_eq]; omega
    case c4 => omega
    case c5 => simp
    intro v' w' hown hgrow _
    have hb : Below w.heap.size w w' := ((Below.refl _ w).alloc (Nat.le_refl _) _).grown hgrow (by simp) (by intro k hk; simp [Value.ownBlock] at hk; omega)
    have H : Hid (WOwn w' w.heap.size v' l) := by
      show w'.ownsRow _ _ _ _ _ _
      simpa using hown
    clear hown hgrow HM
    go_wp2_with fail
    go_ret
    exact ⟨⟨_, rfl, H⟩, hb⟩
set_option maxHeartbeats 1000000 in
set_option maxRecDepth 100000 in
theorem ownWants_any (v : Value) (l : List WantB) (w : World) (hl : l.length ≤ 1000) (hv : WArg w v l) :
    Calls Tryz.prog 14 #[v] w fun e w' => (∃ ov, e = .returned ov ∧ Hid (WOwn w' w.heap.size ov l)) ∧ Below w.heap.size w w' := by
  obtain ⟨i0, hi0, hz0, hz1, hz2⟩ := info_parts Tryz.infoWant
  obtain ⟨⟨ao, cap, rfl, h1, h2, H3⟩, hnil⟩ := hv
  have HM := Lib.hid H3
  clear H3
  cases ao with
  | none =>
    obtain ⟨h0, rfl⟩ := hnil _ _ rfl
    have hl0 : l = [] := List.eq_nil_of_length_eq_zero h0
    subst hl0
    clear HM hnil
    simp only [List.length_nil]
    go_enter Tryz.func14, Tryz.ntmps14
    go_wp2_with (at_builtin; refine wpList_append_own_none rfl _ _ 22 rfl w.heap.size 41 i0 5 Tryz.underlying22 hi0 (.slice none 0 0) 0 [] rfl (World.ownsRow_nil _ _ _ _) rfl ?_)
    go_ret
    exact ⟨⟨_, rfl, WOwn.nil _ _⟩, Below.refl _ _⟩
  | some ad =>
    clear hnil
    go_enter Tryz.func14, Tryz.ntmps14
    go_wp2_with (at_builtin; refine wpList_append_own _ rfl _ _ 22 rfl w.heap.size 41 i0 (.agg #[.string ⟨#[]⟩, .string ⟨#[]⟩, .string ⟨#[]⟩, .int .i64 0, .int .i64 0]) 5 64 Tryz.underlying22 hi0 hz0 hz1 hz2 rfl (by decide) (.slice none 0 0) 0 [] rfl (World.ownsRow_nil _ _ _ _) ad l.length cap (l.flatMap encW) rfl (flatMap_len _ 5 (fun _ => rfl) l) ?c1 ?c2 ?c3 ?c4 ?c5 ?_)
    case c1 =>
      intro j u hj
      have hjl : j < (l.flatMap encW).length := (List.getElem?_eq_some_iff.1 hj).1
      rw [flatMap_len encW 5 (fun _ => rfl)] at hjl
      have hi : j / 5 < l.length := by omega
      obtain ⟨b, off, he, hbl, hcell⟩ := HM.out (j / 5) hi
      injection he with he
      subst he
      obtain ⟨q0, q1, q2, q3, q4⟩ := hcell (j / 5) hi
      rw [show j = j / 5 * 5 + j % 5 by omega, flatMap_at encW 5 (fun _ => rfl) l (j / 5) (j % 5) hi (by omega)] at hj
      have hm : j % 5 = 0 ∨ j % 5 = 1 ∨ j % 5 = 2 ∨ j % 5 = 3 ∨ j % 5 = 4 := by omega
      show w.cell? (Addr.add ⟨b, off, none⟩ j) = some u
      rw [Addr.add_lit]
      rcases hm with hm | hm | hm | hm | hm
      · rw [hm] at hj
        have : u = .string l[j / 5].name := by simpa using hj.symm
        rw [this, ← q0]; congr 2; omega
      · rw [hm] at hj
        have : u = .string l[j / 5].url := by simpa using hj.symm
        rw [this, ← q1]; congr 2; omega
      · rw [hm] at hj
        have : u = .string l[j / 5].kind := by simpa using hj.symm
        rw [this, ← q2]; congr 2; omega
      · rw [hm] at hj
        have : u = .int .i64 l[j / 5].strip := by simpa using hj.symm
        rw [this, ← q3]; congr 2; omega
      · rw [hm] at hj
        have : u = .int .i64 l[j / 5].sum := by simpa using hj.symm
        rw [this, ← q4]; congr 2; omega
    case c2 =>
      intro u hu
      obtain ⟨f, _, hf⟩ := List.mem_flatMap.1 hu
      simp at hf
      rcases hf with rfl | rfl | rfl | rfl | rfl <;> rfl
    case c3 => rw [maxLen_eq]; omega
    case c4 => omega
    case c5 => exact Nat.le_refl _
    intro v' w' hown hgrow _
    have hb : Below w.heap.size w w' := (Below.refl _ _).grown hgrow (Nat.le_refl _) (fun r e => by cases e)
    have H : Hid (WOwn w' w.heap.size v' l) := by
      show w'.ownsRow _ _ _ _ _ _
      simpa using hown
    clear hown hgrow HM
    go_wp2_with fail
    go_ret
    exact ⟨⟨_, rfl, H⟩, hb⟩
end Go.Proofs.YtgchgdkpipanjaaGreatDoor

namespace Go.Proofs.YtgchgdkpipanjaaGreatDoor
open Go Go.RowKit

/-- Files that are read by an append. -/
def WSrc (w : World) (v : Value) (m : List WantB) : Prop :=
  v = .slice none 0 0 ∧ m = [] ∨ ∃ ad cap, v = .slice (some ad) m.length cap ∧ ∀ k, (hk : k < m.length) → ∃ b off, ad = ⟨b, off, none⟩ ∧ w.cell? ⟨b, off + k * 5, none⟩ = some (.string m[k].name) ∧ w.cell? ⟨b, off + k * 5 + 1, none⟩ = some (.string m[k].url) ∧ w.cell? ⟨b, off + k * 5 + 2, none⟩ = some (.string m[k].kind) ∧ w.cell? ⟨b, off + k * 5 + 3, none⟩ = some (.int .i64 m[k].strip) ∧ w.cell? ⟨b, off + k * 5 + 4, none⟩ = some (.int .i64 m[k].sum)
theorem WSrc.none (w : World) : WSrc w (.slice none 0 0) [] := .inl ⟨rfl, rfl⟩
theorem WSrc.drop0 {w : World} {ao : Option Addr} {n cap k : Nat} {l : List WantB} (h : WSrc w (.slice ao n cap) l) (hn : l.length = n) (hc : n ≤ cap) (hk : k ≤ n) : WSrc w (.slice (if cap = k then ao else ao.map (·.add (k * 5))) (n - k) (cap - k)) (l.drop k) := by
  rcases h with ⟨h, rfl⟩ | ⟨ad, c, h, hcell⟩
  · injection h with e1 e2 e3
    subst e1 e2 e3
    left
    simp
  · injection h with e1 e2 e3
    subst e1 e3
    right
    by_cases hck : cap = k
    · subst hck
      have : n = cap := by omega
      subst this
      rw [if_pos rfl]
      exact ⟨ad, 0, by simp [hn], fun j hj => absurd hj (by simp [hn])⟩
    · rw [if_neg hck]
      refine ⟨ad.add (k * 5), cap - k, by simp [hn], fun j hj => ?_⟩
      rw [List.length_drop] at hj
      obtain ⟨b, off, rfl, this⟩ := hcell (k + j) (by omega)
      rw [List.getElem_drop]
      refine ⟨b, off + k * 5, by rw [Addr.add_lit], ?_⟩
      rw [show off + k * 5 + j * 5 = off + (k + j) * 5 by omega]
      exact this
theorem WSrc.take0 {w : World} {ao : Option Addr} {n cap k : Nat} {l : List WantB} (h : WSrc w (.slice ao n cap) l) (hn : l.length = n) (hk : k ≤ n) : WSrc w (.slice ao k cap) (l.take k) := by
  rcases h with ⟨h, rfl⟩ | ⟨ad, c, h, hcell⟩
  · injection h with e1 e2 e3
    subst e1 e2 e3
    left
    have : k = 0 := by omega
    subst this; simp
  · injection h with e1 e2 e3
    subst e1 e3
    right
    refine ⟨ad, cap, by rw [List.length_take, Nat.min_eq_left (by omega)], fun j hj => ?_⟩
    rw [List.length_take] at hj
    rw [List.getElem_take]
    exact hcell j (by omega)
theorem WSrc.dropS {w : World} {b off n cap k : Nat} {l : List WantB} (h : WSrc w (.slice (some ⟨b, off, Option.none⟩) n cap) l) (hn : l.length = n) (hc : n ≤ cap) (hk : k ≤ n) : WSrc w (.slice (if cap = k then some ⟨b, off, Option.none⟩ else some ⟨b, off + k * 5, Option.none⟩) (n - k) (cap - k)) (l.drop k) := by
  have := h.drop0 hn hc hk
  rw [Option.map_some, Addr.add_lit] at this
  exact this
theorem WSrc.one (w : World) (f : WantB) (t : TypeId) : WSrc (w.alloc (.cells #[.string f.name, .string f.url, .string f.kind, .int .i64 f.strip, .int .i64 f.sum] t)) (.slice (some ⟨w.heap.size, 0, Option.none⟩) 1 1) [f] := by
  refine .inr ⟨⟨w.heap.size, 0, Option.none⟩, 1, rfl, fun k hk => ?_⟩
  have hA := heap_alloc_new w (.cells #[.string f.name, .string f.url, .string f.kind, .int .i64 f.strip, .int .i64 f.sum] t)
  have : k = 0 := by simpa using hk
  subst this
  refine ⟨_, _, rfl, ?_, ?_, ?_, ?_, ?_⟩ <;> rw [Lib.cell_of_heap hA] <;> rfl
theorem WArg.src {w : World} {v : Value} {l : List WantB} (h : WArg w v l) : WSrc w v l := by
  obtain ⟨⟨ao, cap, rfl, h1, h2, h3⟩, hn⟩ := h
  cases ao with
  | none =>
    obtain ⟨h0, rfl⟩ := hn _ _ rfl
    left
    rw [h0]
    exact ⟨rfl, List.eq_nil_of_length_eq_zero h0⟩
  | some ad =>
    right
    refine ⟨ad, cap, rfl, fun k hk => ?_⟩
    obtain ⟨b, off, e, _, hc⟩ := h3 k hk
    injection e with e
    exact ⟨b, off, e, hc k hk⟩
theorem WOwn.src {w : World} {base : Nat} {v : Value} {l : List WantB} (h : WOwn w base v l) : WSrc w v l := h.arg.src
theorem WSrc.ext {w w' : World} {v : Value} {l : List WantB} {B : Nat} (h : WSrc w v l) (hb : Below B w w') (hl : ∀ b o c n, v = .slice (some ⟨b, o, Option.none⟩) n c → b < B) : WSrc w' v l := by
  rcases h with h | ⟨ad, c, rfl, hcell⟩
  · exact .inl h
  · refine .inr ⟨ad, c, rfl, fun k hk => ?_⟩
    obtain ⟨b, off, rfl, q0, q1, q2, q3, q4⟩ := hcell k hk
    have hB := hl _ _ _ _ rfl
    exact ⟨b, off, rfl, by rw [hb.cell (p := ⟨b, off + k * 5, Option.none⟩) hB]; exact q0, by rw [hb.cell (p := ⟨b, off + k * 5 + 1, Option.none⟩) hB]; exact q1, by rw [hb.cell (p := ⟨b, off + k * 5 + 2, Option.none⟩) hB]; exact q2, by rw [hb.cell (p := ⟨b, off + k * 5 + 3, Option.none⟩) hB]; exact q3, by rw [hb.cell (p := ⟨b, off + k * 5 + 4, Option.none⟩) hB]; exact q4⟩

/- append(s, x...) of files, s the call own. -/
set_option maxRecDepth 100000 in
theorem wpList_append_wants {w : World} {ops : Array Oper} {rest : List Oper} {o : Oper} {a : Act} {Q : Exit → Act → World → Prop} (hgd : o.guard = none) (s x : Operand)
    (ho : o.op = .call { callee := .builtin .append, args := #[s, x], argTypes := #[22, 22] })
    (base : Nat) (v : Value) (l : List WantB) (hs : a.eval s = v) (hown : WOwn w base v l) (u : Value) (m : List WantB) (hx : a.eval x = u) (hsrc : WSrc w u m) (hlen : l.length + m.length ≤ 1000000) (hbase : base ≤ w.heap.size)
    (h : ∀ v' w', Hid (WOwn w' base v' (l ++ m)) → Hid (∀ w0, Below base w0 w → Below base w0 w') → wpList Tryz.prog ops Q rest (a.put o.dst v') w') : wpList Tryz.prog ops Q (o :: rest) a w := by
  obtain ⟨i0, hi0, hz0, hz1, hz2⟩ := info_parts Tryz.infoWant
  rcases hsrc with ⟨rfl, rfl⟩ | ⟨ad, c, rfl, hcell⟩
  · refine wpList_append_own_none hgd s x 22 ho base 41 i0 5 Tryz.underlying22 hi0 v l.length _ hs hown hx ?_
    refine h _ _ ?_ (fun _ hb => hb)
    show WOwn _ _ _ _
    rw [List.append_nil]; exact hown
  · refine wpList_append_own w hgd s x 22 ho base 41 i0 (.agg #[.string ⟨#[]⟩, .string ⟨#[]⟩, .string ⟨#[]⟩, .int .i64 0, .int .i64 0]) 5 64 Tryz.underlying22 hi0 hz0 hz1 hz2 rfl (by decide) v l.length _ hs hown ad m.length c (m.flatMap encW) hx (flatMap_len _ 5 (fun _ => rfl) m) ?c1 ?c2 ?c3 ?c4 hbase ?_
    case c1 =>
      intro j u hj
      have hjl : j < (m.flatMap encW).length := (List.getElem?_eq_some_iff.1 hj).1
      rw [flatMap_len encW 5 (fun _ => rfl)] at hjl
      have hi : j / 5 < m.length := by omega
      obtain ⟨b, off, rfl, q0, q1, q2, q3, q4⟩ := hcell (j / 5) hi
      rw [show j = j / 5 * 5 + j % 5 by omega, flatMap_at encW 5 (fun _ => rfl) m (j / 5) (j % 5) hi (by omega)] at hj
      have hm : j % 5 = 0 ∨ j % 5 = 1 ∨ j % 5 = 2 ∨ j % 5 = 3 ∨ j % 5 = 4 := by omega
      show w.cell? (Addr.add ⟨b, off, none⟩ j) = some u
      rw [Addr.add_lit]
      rcases hm with hm | hm | hm | hm | hm
      · rw [hm] at hj
        have : u = .string m[j / 5].name := by simpa using hj.symm
        rw [this, ← q0]; congr 2; omega
      · rw [hm] at hj
        have : u = .string m[j / 5].url := by simpa using hj.symm
        rw [this, ← q1]; congr 2; omega
      · rw [hm] at hj
        have : u = .string m[j / 5].kind := by simpa using hj.symm
        rw [this, ← q2]; congr 2; omega
      · rw [hm] at hj
        have : u = .int .i64 m[j / 5].strip := by simpa using hj.symm
        rw [this, ← q3]; congr 2; omega
      · rw [hm] at hj
        have : u = .int .i64 m[j / 5].sum := by simpa using hj.symm
        rw [this, ← q4]; congr 2; omega
    case c2 =>
      intro u hu
      obtain ⟨f, _, hf⟩ := List.mem_flatMap.1 hu
      simp at hf
      rcases hf with rfl | rfl | rfl | rfl | rfl <;> rfl
    case c3 => rw [maxLen_eq]; omega
    case c4 => omega
    intro v' w' hown' hgrow _
    refine h v' w' ?_ (fun w0 hb => hb.grown hgrow hbase (fun q hq => (World.ownsRow.lt hown q hq).1))
    show World.ownsRow _ _ _ _ _ _ _
    rw [List.length_append, List.flatMap_append]; exact hown'

end Go.Proofs.YtgchgdkpipanjaaGreatDoor

namespace Go.Proofs.YtgchgdkpipanjaaGreatDoor
open Go Go.RowKit

set_option maxHeartbeats 1000000 in
set_option maxRecDepth 100000 in
theorem growWants_any (n : Nat) (w : World) (hn : n ≤ 100000) :
    Calls Tryz.prog 92 #[.slice none 0 0, .int .i64 n] w fun e w' => (∃ ov, e = .returned ov ∧ Hid (WOwn w' w.heap.size ov [])) ∧ Below w.heap.size w w' := by
  obtain ⟨i0, hi0, hz0, hzs, hzb⟩ := info_parts Tryz.infoWant
  by_cases h0 : n = 0
  · subst h0
    go_enter Tryz.func92, Tryz.ntmps92
    go_wp2_with fail
    go_ret
    exact ⟨⟨_, rfl, WOwn.nil _ _⟩, Below.refl _ _⟩
  · have hold : (Builtin.firstCells i0.size 0 (.slice none 0 0)).run Tryz.prog w.drew = .ok (([] : List Value)).toArray w.drew := by
      rw [hzs]; simp [Builtin.firstCells]
    have hrz : ∀ ty, (Builtin.append_ #[22, 3] ty #[.slice none 0 0, .int .i64 (n : Int)]).run Tryz.prog w =
        .ok (.slice (some ⟨w.heap.size, 0, none⟩) n (grownCap w n 0 41)) (w.drew.alloc (.cells (([] : List Value).toArray ++ Builtin.zeroCells (Value.agg #[.string ⟨#[]⟩, .string ⟨#[]⟩, .string ⟨#[]⟩, .int .i64 0, .int .i64 0]).cells n ++ Builtin.zeroCells (Value.agg #[.string ⟨#[]⟩, .string ⟨#[]⟩, .string ⟨#[]⟩, .int .i64 0, .int .i64 0]).cells (grownCap w n 0 41 - n)) 41)) := fun ty => by
      have h := Lib.run_append_grow_zeros w 22 3 ty 41 i0 _ .i64 .i64 Tryz.underlying22 Tryz.underlying3 hi0 hz0 none 0 0 [] hold n (by omega) (by omega) (by omega) (by omega) (by rw [hzb]; omega) (by rw [hzb, show 0 + n = n by omega]; exact growslice_fits (by omega) (by omega))
      rw [show 0 + n = n by omega] at h
      exact h
    have hGn : n ≤ grownCap w n 0 41 := grownCap_ge w _ _ _
    have hG63 : grownCap w n 0 41 ≤ 9223372036854775807 := by
      have := grownCap_le_maxLen w n 0 41 (by unfold maxLen; omega)
      unfold maxLen at this
      omega
    obtain ⟨G, hG⟩ : ∃ G, G = grownCap w n 0 41 := ⟨_, rfl⟩
    rw [← hG] at hrz hGn hG63
    obtain ⟨ROW, hROW⟩ : ∃ ROW : Array Value, ([] : List Value).toArray ++ Builtin.zeroCells (Value.agg #[.string ⟨#[]⟩, .string ⟨#[]⟩, .string ⟨#[]⟩, .int .i64 0, .int .i64 0]).cells n ++ Builtin.zeroCells (Value.agg #[.string ⟨#[]⟩, .string ⟨#[]⟩, .string ⟨#[]⟩, .int .i64 0, .int .i64 0]).cells (G - n) = ROW := ⟨_, rfl⟩
    have hRl : ROW.size = G * 5 := by
      rw [← hROW]
      simp [Builtin.zeroCells, Value.cells]
      omega
    rw [hROW] at hrz
    clear hROW hG hold
    have hnew : (w.drew.alloc (.cells ROW 41)).heap[w.heap.size]? = some (.cells ROW 41 (0, 0)) := heap_alloc_new w.drew _
    have hb : Below w.heap.size w (w.drew.alloc (.cells ROW 41)) := ((Below.refl _ w).drew).alloc (Nat.le_refl _) _
    have HO : Hid (WOwn (w.drew.alloc (.cells ROW 41)) w.heap.size (.slice (some ⟨w.heap.size, 0, none⟩) 0 G) []) := by
      show World.ownsRow _ _ _ _ _ _ _
      exact ⟨rfl, .inr ⟨w.heap.size, G, _, rfl, Nat.le_refl _, hnew, Nat.zero_le _, by rw [maxLen_eq]; exact hG63, hRl, by simp⟩⟩
    have HRZ := Lib.hid hrz
    have HB := Lib.hid hb
    have hG0 : ¬ (G = 0) := by omega
    clear hrz hb hnew hRl hi0 hz0 hzs hzb
    go_enter Tryz.func92, Tryz.ntmps92
    go_wp2_with (at_builtin; refine Lib.wpList_append_run _ rfl _ _ _ _ rfl _ _ rfl rfl _ _ (HRZ.out _) ?_)
    go_wp2_with fail
    go_ret
    exact ⟨⟨_, rfl, HO⟩, HB.out⟩

set_option maxHeartbeats 2000000 in
set_option maxRecDepth 100000 in
theorem concatWants_any (va vb : Value) (a b : List WantB) (h : Nat) (w : World) (t : TypeId) (ha : a.length ≤ 10000) (hb : b.length ≤ 10000) (hva : WArg w va a) (hvb : WArg w vb b) (hh : w.heap[h]? = some (.cells #[va, vb] t (0, 0))) :
    Calls Tryz.prog 47 #[.slice (some ⟨h, 0, none⟩) 2 2] w fun e w' => (∃ ov, e = .returned ov ∧ Hid (WOwn w' w.heap.size ov (a ++ b))) ∧ Below w.heap.size w w' := by
  have HA := Lib.hid hva
  have HB := Lib.hid hvb
  obtain ⟨ao, ac, rfl⟩ := hva.1.len
  obtain ⟨bo, bc, rfl⟩ := hvb.1.len
  have HH : Hid (∀ W, Below w.heap.size w W → W.cell? ⟨h, 0, none⟩ = some (.slice ao a.length ac) ∧ W.cell? ⟨h, 1, none⟩ = some (.slice bo b.length bc)) := fun W hW => by
    have h2 := (hW.block h (Array.getElem?_eq_some_iff.1 hh).1).trans hh
    exact ⟨by rw [Lib.cell_of_heap h2]; rfl, by rw [Lib.cell_of_heap h2]; rfl⟩
  obtain ⟨na, hna⟩ : ∃ na, a.length = na := ⟨_, rfl⟩
  obtain ⟨nb, hnb⟩ : ∃ nb, b.length = nb := ⟨_, rfl⟩
  have HNA := Lib.hid hna
  have HNB := Lib.hid hnb
  rw [hna] at HA HH ha
  rw [hnb] at HB HH hb
  clear hva hvb hh hna hnb
  go_enter Tryz.func47, Tryz.ntmps47
  go_wp2_with fail
  go_loopw [3, 11] (fun sv i wr => ∃ k : Nat, k ≤ 2 ∧ i = .int .i64 k ∧ sv = .int .i64 (if k = 0 then 0 else if k = 1 then na else na + nb : Nat) ∧ wr = w) (fun _ i _ => 2 - (intOf i).toNat)
  case atStart => exact ⟨0, by decide, rfl, rfl, rfl⟩
  case round =>
    obtain ⟨k, hk, rfl, rfl, hw⟩ := hrel
    have hw2 := hw.symm
    clear hw
    subst hw2
    obtain ⟨c0, c1⟩ := HH.out w (Below.refl _ _)
    have hk3 : k = 0 ∨ k = 1 ∨ k = 2 := by omega
    rcases hk3 with rfl | rfl | rfl
    · go_wp2_with fail
      go_roundw
      case rel => exact ⟨1, by decide, rfl, by simp, trivial⟩
      case measure => simp [intOf]
    · go_wp2_with fail
      go_roundw
      case rel => exact ⟨2, by decide, rfl, by simp, trivial⟩
      case measure => simp [intOf]
    · have C0 := growWants_any (na + nb) w (by omega)
      rw [Int.natCast_add] at C0
      have C := Lib.hid C0
      clear C0 c0 c1
      go_wp2_with fail
      refine C.out.mono ?_
      clear C
      rintro e w1 ⟨⟨ov, rfl, HO⟩, hb1⟩
      have HB1 := Lib.hid hb1
      clear hb1
      go_wp2_with fail
      go_loopw [6, 27] (fun ov i wr => ∃ (k : Nat) (acc : List WantB), k ≤ 2 ∧ i = .int .i64 k ∧ Hid (acc = if k = 0 then [] else if k = 1 then a else a ++ b) ∧ Hid (WOwn wr w.heap.size ov acc) ∧ Hid (Below w.heap.size w wr)) (fun _ i _ => 2 - (intOf i).toNat)
      case atStart => exact ⟨0, [], by decide, rfl, rfl, HO, HB1⟩
      case round =>
        obtain ⟨k, acc, hk, rfl, HAC, HO, HBw⟩ := hrel
        obtain ⟨oo, oc, rfl⟩ := HO.out.shape
        obtain ⟨c0, c1⟩ := HH.out wr HBw.out
        have SA := Lib.hid ((HA.out.ext HBw.out).src)
        have SB := Lib.hid ((HB.out.ext HBw.out).src)
        have hk3 : k = 0 ∨ k = 1 ∨ k = 2 := by omega
        rcases hk3 with rfl | rfl | rfl
        · obtain rfl : acc = [] := HAC.out
          have hla : a.length ≤ 10000 := by rw [HNA.out]; exact ha
          clear HAC
          go_wp2_with (at_builtin; refine wpList_append_wants rfl _ _ rfl w.heap.size (.slice oo 0 oc) [] rfl HO.out _ a rfl (by have := SA.out; rw [← HNA.out] at this; rw [← HNA.out]; exact this) (by simp; omega) HBw.out.size ?_)
          intro ov4 w4 HO4 HB4
          have H4 := Lib.hid (HB4.out w HBw.out)
          clear HB4 c0 c1 SA SB HO HBw
          go_wp2_with fail
          go_roundw
          case rel => exact ⟨1, a, by decide, rfl, rfl, HO4, H4⟩
          case measure => simp [intOf]
        · obtain rfl : acc = a := HAC.out
          have hla : acc.length ≤ 10000 := by rw [HNA.out]; exact ha
          have hlb : b.length ≤ 10000 := by rw [HNB.out]; exact hb
          clear HAC
          go_wp2_with (at_builtin; refine wpList_append_wants rfl _ _ rfl w.heap.size (.slice oo acc.length oc) acc rfl HO.out _ b rfl (by have := SB.out; rw [← HNB.out] at this; rw [← HNB.out]; exact this) (by omega) HBw.out.size ?_)
          intro ov4 w4 HO4 HB4
          have H4 := Lib.hid (HB4.out w HBw.out)
          clear HB4 c0 c1 SA SB HO HBw
          go_wp2_with fail
          go_roundw
          case rel => exact ⟨2, acc ++ b, by decide, rfl, rfl, HO4, H4⟩
          case measure => simp [intOf]
        · obtain rfl : acc = a ++ b := HAC.out
          clear c0 c1 SA SB
          go_wp2_with fail
          go_ret
          exact ⟨⟨_, rfl, HO⟩, HBw.out⟩
end Go.Proofs.YtgchgdkpipanjaaGreatDoor
