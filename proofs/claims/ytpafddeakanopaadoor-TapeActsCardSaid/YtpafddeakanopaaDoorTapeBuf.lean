/- A row of bytes that the call owns, whole or cut short ('b[:n:n]'), with or without a conversion's mark behind its end: what is appended to it. -/
import Derived.Test.YtpafddeakanopaaDoorProg
import Derived.WalkKit
import Derived.Lib.AppendStr
import Derived.Lib.ConvBytes
import Derived.Lib.Builder
import Derived.Lib.Hide
namespace Go.Proofs.YtpafddeakanopaaDoor
open Go Go.RowKit

/-- Bytes in a row of the call's own, from block B on. -/
def Buf (w : World) (B : Nat) (v : Value) (bs : List Value) : Prop :=
  (v = .slice none 0 0 ∧ bs = []) ∨
    ∃ g cap cur lo hi, v = .slice (some ⟨g, 0, none⟩) bs.length cap ∧ B ≤ g ∧ w.heap[g]? = some (.cells cur 5 (lo, hi)) ∧ (lo = hi ∨ cur.size ≤ lo) ∧ bs.length ≤ cap ∧ cap ≤ maxLen ∧ cap ≤ cur.size ∧ cur.toList.take bs.length = bs

theorem Buf.nil (w : World) (B : Nat) : Buf w B (.slice none 0 0) [] := .inl ⟨rfl, rfl⟩
theorem Buf.lt {w : World} {B : Nat} {v : Value} {bs : List Value} (h : Buf w B v bs) : ∀ g, v.ownBlock = some g → B ≤ g ∧ g < w.heap.size := by
  rcases h with ⟨rfl, _⟩ | ⟨g, cap, cur, lo, hi, rfl, h1, h2, _⟩
  · intro g hg; cases hg
  · intro k hk
    simp only [Value.ownBlock, Option.some.injEq] at hk
    subst hk
    exact ⟨h1, (Array.getElem?_eq_some_iff.1 h2).1⟩
theorem Buf.kept {w w' : World} {B : Nat} {v : Value} {bs : List Value} {row : Option Nat} (h : Buf w B v bs) (hg : w.grownBy w' row) (hr : row = none ∨ v.ownBlock ≠ row) : Buf w' B v bs := by
  rcases h with ⟨rfl, h0⟩ | ⟨g, cap, cur, lo, hi, rfl, h1, h2, h3⟩
  · exact .inl ⟨rfl, h0⟩
  · have hlt := (Array.getElem?_eq_some_iff.1 h2).1
    refine .inr ⟨g, cap, cur, lo, hi, rfl, h1, ?_, h3⟩
    rw [hg.block g hlt ?_]; exact h2
    rcases hr with rfl | hr
    · simp
    · simpa [Value.ownBlock] using hr
theorem Buf.below {w w' : World} {B : Nat} {v : Value} {bs : List Value} (h : Buf w B v bs) (hb : Below w.heap.size w w') : Buf w' B v bs :=
  h.kept (row := none) ⟨hb.os, hb.tape, hb.output, hb.size, fun k hk _ => hb.block k hk⟩ (.inl rfl)

section
variable {P : Program}
theorem storeCells_marked (g o : Nat) (t : TypeId) (lo hi : Nat) : ∀ (vs : List Value) (i : Nat) (cur : Array Value) (w : World), w.heap[g]? = some (.cells cur t (lo, hi)) → (lo = hi ∨ cur.size ≤ lo) → o + i + vs.length ≤ cur.size → (∀ v ∈ vs, v.oneCell' = true) →
    (storeCells ⟨g, o, none⟩ vs i).run P w = .ok () (w.setRow g (cur.toList.take (o + i) ++ vs ++ cur.toList.drop (o + i + vs.length)).toArray)
  | [], i, cur, w, hg, _, _, _ => by
    simp only [storeCells, List.append_nil, List.length_nil, Nat.add_zero, List.take_append_drop, Array.toArray_toList]
    rw [setRow_self w g cur t (lo, hi) hg]
    rfl
  | v :: rest, i, cur, w, hg, hm, hl, h1 => by
    have hi' : o + i < cur.size := by simp at hl; omega
    have hadd : (⟨g, o, none⟩ : Addr).add i = ⟨g, o + i, none⟩ := by unfold Addr.add; split <;> simp_all
    have hcell : w.cell? ⟨g, o + i, none⟩ = some cur[o + i] := by simp [World.cell?, hg, hi']
    have hfro : w.frozen? ⟨g, o + i, none⟩ = false := by
      have : decide (lo ≤ o + i) = false ∨ decide (o + i < hi) = false := by
        rcases hm with h | h
        · by_cases h2 : lo ≤ o + i
          · exact .inr (decide_eq_false (by omega))
          · exact .inl (decide_eq_false h2)
        · exact .inl (decide_eq_false (by omega))
      simp only [World.frozen?, hg]
      rcases this with h | h <;> simp [h]
    have hst : (store ((⟨g, o, none⟩ : Addr).add i) v).run P w = .ok () (w.setRow g (cur.setIfInBounds (o + i) v)) := by
      rw [hadd, run_store P w _ v _ (h1 v (by simp)), hcell]
      simp [hfro, setCell_eq_setRow w g (o + i) cur t (lo, hi) v hg]
    have ih := storeCells_marked g o t lo hi rest (i + 1) (cur.setIfInBounds (o + i) v) (w.setRow g (cur.setIfInBounds (o + i) v)) (setRow_heap w g cur _ t _ hg) (by simpa using hm) (by simp at hl ⊢; omega) (fun x hx => h1 x (by simp [hx]))
    simp only [storeCells, Sem.run_bind, hst, Result.andThen_ok, ih, setRow_setRow]
    congr 3
    have e := list_seg_step cur.toList (o + i) v rest (by simp at hl ⊢; omega)
    simpa [Array.toList_setIfInBounds, Nat.add_assoc] using e
end

section
variable (w : World)
theorem run_append_buf (B : Nat) (ty : TypeId) (i : TypeInfo) (hi : Tryd.prog.info? 5 = some i) (hz : i.zero = some (.int .u8 0)) (hsize : i.size = 1) (hby : i.bytes = 1)
    (v : Value) (xs : List Value) (hown : Buf w B v xs) (s : ByteArray) (hbytes : xs.length + s.size ≤ 140737488355328) (hB : B ≤ w.heap.size) :
    ∃ v' w', (Builtin.append_ #[81, 9] ty #[v, .string s]).run Tryd.prog w = .ok v' w' ∧ Buf w' B v' (xs ++ Lib.strCells s) ∧ w.grownBy w' v.ownBlock := by
  have ht := Tryd.underlying81
  have hu := Tryd.underlying9
  have h63 : xs.length + s.size ≤ maxLen := by unfold maxLen; omega
  have hlen : (xs ++ Lib.strCells s).length = xs.length + s.size := by rw [List.length_append, Lib.strCells_length]
  have grown : ∀ (old : Nat), old < xs.length + s.size → ∀ (row : Option Nat),
      Buf (w.drew.alloc (.cells (xs.toArray ++ (Lib.strCells s).toArray ++ Builtin.zeroCells (Value.int .u8 0).cells (grownCap w (xs.length + s.size) old 5 - (xs.length + s.size))) 5)) B
        (.slice (some ⟨w.heap.size, 0, none⟩) (xs.length + s.size) (grownCap w (xs.length + s.size) old 5)) (xs ++ Lib.strCells s) ∧
      w.grownBy (w.drew.alloc (.cells (xs.toArray ++ (Lib.strCells s).toArray ++ Builtin.zeroCells (Value.int .u8 0).cells (grownCap w (xs.length + s.size) old 5 - (xs.length + s.size))) 5)) row := by
    intro old ho row
    have hge := grownCap_ge w (xs.length + s.size) old 5
    have hcm : grownCap w (xs.length + s.size) old 5 ≤ maxLen := grownCap_le_maxLen w (xs.length + s.size) old 5 h63
    refine ⟨.inr ⟨w.heap.size, _, _, 0, 0, by rw [hlen], hB, heap_alloc_new w.drew _, .inl rfl, by rw [hlen]; exact hge, hcm, ?_, ?_⟩, ⟨rfl, rfl, rfl, by simp, fun k hk _ => Lib.alloc_old w.drew _ k hk⟩⟩
    · have hz1 : (Value.int IntKind.u8 0).cells.size = 1 := rfl
      simp only [Array.size_append, List.size_toArray, size_zeroCells, hz1, Lib.strCells_length]
      omega
    · simp only [Array.toList_append, List.append_assoc]
      rw [← List.append_assoc]
      exact List.take_left
  rcases hown with ⟨rfl, rfl⟩ | ⟨g, cap, cur, lo, hi2, rfl, hbg, hg, hm, hnc, hcm, hcs, htake⟩
  · by_cases hm : s.size = 0
    · have hn : Lib.strCells s = [] := List.eq_nil_of_length_eq_zero (by rw [Lib.strCells_length]; exact hm)
      refine ⟨.slice none 0 0, w, ?_, by rw [hn]; exact Buf.nil w B, ⟨rfl, rfl, rfl, Nat.le_refl _, fun _ _ _ => rfl⟩⟩
      have hf := Lib.run_firstCells_string (P := Tryd.prog) w 1 s
      rw [hm] at hf
      simp [Builtin.append_, run_underlying ht, run_underlying hu, sizeOf, typeInfo, hi, hsize, Builtin.lenOf, hm, hf]
    · have hr := run_append_nil_string (P := Tryd.prog) w 81 9 ty 5 i (.int .u8 0) ht hu hi hz s (by omega) (by simp at hbytes; omega) (by rw [hby]; simp at hbytes; omega)
      have hgr := grown 0 (by simp; omega) (Value.ownBlock (.slice none 0 0))
      simp only [List.length_nil, Nat.zero_add, List.nil_append, Array.empty_append] at hgr ⊢
      have e1 : (s.data.map fun b => Value.int .u8 b.toNat) = (Lib.strCells s).toArray := by
        apply Array.ext'
        simp [Lib.strCells]
      rw [e1] at hr
      exact ⟨_, _, hr, hgr.1, hgr.2⟩
  · by_cases hroom : xs.length + s.size ≤ cap
    · have hf := Lib.run_firstCells_string (P := Tryd.prog) w 1 s
      have hst := storeCells_marked (P := Tryd.prog) g xs.length 5 lo hi2 (Lib.strCells s) 0 cur w hg hm (by rw [Lib.strCells_length]; omega) (Lib.strCells_oneCell s)
      simp only [Nat.add_zero, Lib.strCells_length] at hst
      have hr : (Builtin.append_ #[81, 9] ty #[.slice (some ⟨g, 0, none⟩) xs.length cap, .string s]).run Tryd.prog w =
          .ok (.slice (some ⟨g, 0, none⟩) (xs.length + s.size) cap) (w.setRow g (cur.toList.take xs.length ++ Lib.strCells s ++ cur.toList.drop (xs.length + s.size)).toArray) := by
        simp [Builtin.append_, run_underlying ht, run_underlying hu, sizeOf, typeInfo, hi, hsize, Builtin.lenOf, hroom, hf, Addr.add_lit, hst]
      refine ⟨_, _, hr, .inr ⟨g, cap, _, lo, hi2, by rw [hlen], hbg, setRow_heap w g cur _ 5 _ hg, ?_, by rw [hlen]; exact hroom, hcm, ?_, ?_⟩, ⟨rfl, rfl, rfl, by simp, fun k _ hk => setRow_other w g k _ (fun e => hk (by simp [Value.ownBlock, e]))⟩⟩
      · rcases hm with h | h
        · exact .inl h
        · refine .inr ?_
          simp only [List.size_toArray, List.length_append, List.length_take, List.length_drop, Array.length_toList, Lib.strCells_length]
          omega
      · simp only [List.size_toArray, List.length_append, List.length_take, List.length_drop, Array.length_toList, Lib.strCells_length]
        omega
      · rw [htake]
        exact List.take_left
    · have holds : ∀ j u, xs[j]? = some u → w.cell? ((⟨g, 0, none⟩ : Addr).add j) = some u := by
        intro j u hj
        have hjl : j < xs.length := (List.getElem?_eq_some_iff.1 hj).1
        rw [Addr.add_lit, Lib.cell_of_heap hg, Nat.zero_add, ← Array.getElem?_toList]
        rw [← htake, List.getElem?_take, if_pos (by omega)] at hj
        exact hj
      have hr := Lib.run_append_grow_string (P := Tryd.prog) w 81 9 ty 5 i (.int .u8 0) ht hu hi hz ⟨g, 0, none⟩ xs.length cap xs (by rw [hsize]; simp) holds s (by omega) (by omega) (by rw [hby]; exact growslice_fits (by omega) (by omega))
      have hgr := grown cap (by omega) (Value.ownBlock (.slice (some ⟨g, 0, none⟩) xs.length cap))
      exact ⟨_, _, hr, hgr.1, hgr.2⟩

/-- THE OPERATION, for the walk. -/
theorem wpList_append_buf {ops : Array Oper} {rest : List Oper} {o : Oper} {a : Act} {Q : Exit → Act → World → Prop} (hgd : o.guard = none) (sl x : Operand)
    (ho : o.op = .call { callee := .builtin .append, args := #[sl, x], argTypes := #[81, 9] })
    (B : Nat) (i : TypeInfo) (hi : Tryd.prog.info? 5 = some i) (hz : i.zero = some (.int .u8 0)) (hsize : i.size = 1) (hby : i.bytes = 1)
    (v : Value) (xs : List Value) (hs : a.eval sl = v) (hown : Buf w B v xs) (s : ByteArray) (hx : a.eval x = .string s)
    (hbytes : xs.length + s.size ≤ 140737488355328) (hbase : B ≤ w.heap.size)
    (h : ∀ v' w', Buf w' B v' (xs ++ Lib.strCells s) → w.grownBy w' v.ownBlock → wpList Tryd.prog ops Q rest (a.put o.dst v') w') : wpList Tryd.prog ops Q (o :: rest) a w := by
  refine wpList_plain hgd fun K hK => ?_
  obtain ⟨v', w', hr, h2, h3⟩ := run_append_buf w B o.type i hi hz hsize hby v xs hown s hbytes hbase
  unfold Oper.wp execOp
  simp only [ho, resolve, invoke, builtin, Sem.run_bind, Sem.run_pure, Result.andThen_ok, List.map_toArray, List.map_cons, List.map_nil, hs, hx, hr]
  exact hK _ _ (h v' w' h2 h3)
end
end Go.Proofs.YtpafddeakanopaaDoor
